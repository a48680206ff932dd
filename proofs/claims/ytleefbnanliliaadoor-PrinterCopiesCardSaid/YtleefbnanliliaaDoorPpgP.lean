/- The document's printer: Forward. Own work. -/
import Derived.Test.YtleefbnanliliaaDoorPpgO
namespace Go.AM.X
open Go Go.AM Go.Proofs Go.AM.Sx
set_option maxHeartbeats 3200000
set_option maxRecDepth 100000
set_option linter.unusedVariables false
theorem F49 : F 49 = some { body := (Tryd.f49.body.getD .skip), results := Tryd.f49.results.toList, rf := false } := by kernel_rfl
theorem code_drawn {C : Cf} {T : TT} {n : Nat} {rf : Bool} {id all e h K} (hd : drawOk T all = true) (hs : softs T all = []) : code C T n rf (.region id all true) e h K = ops C T all all.toList e h (K .normal) := by
  simp only [code, hd, hs]
theorem OkT.st67 {h : AH} {t : Nat} {S : Tp} {off : Nat → Prop} (hS : OkT h t S off) (a n : Int) :
    ∃ h1 h2 off2, aStore T 3 (.ptr t 6) (.int .i64 a) h = some h1 ∧ aStore T 3 (.ptr t 7) (.int .i64 n) h1 = some h2 ∧ OkT h2 t { S with ap := a, sq := n } off2 ∧ Stf h h2 off off2 ∧ h2.next = h.next ∧ ∀ c, c ≠ t → h2.get c = h.get c := by
  obtain ⟨R, hR, rfl, rfl⟩ := hS
  obtain ⟨hA, hSA⟩ := hR.setA a R.sq
  obtain ⟨h1, hh1⟩ : ∃ h1, h1 = h.put t (.cells ({ R with ap := a, sq := R.sq } : Rf).cs .own) := ⟨_, rfl⟩
  rw [← hh1] at hA hSA
  obtain ⟨hB, hSB⟩ := hA.setA a n
  refine ⟨h1, _, _, ?_, ?_, ⟨_, hB, rfl, rfl⟩, (stfF hSA (Ext.sub fun v hv => .inl hv)).trans (stfF hSB (Ext.sub fun v hv => .inl hv)), by rw [hh1]; rfl, fun c hc => by rw [AH.get_put, if_neg hc, hh1, AH.get_put, if_neg hc]⟩
  · rw [hh1]; exact store_1 (cs := R.cs) T3 s3 rfl rfl hR.g (by simp [Rf.cs])
  · exact store_1 (cs := ({ R with ap := a, sq := R.sq } : Rf).cs) T3 s3 rfl rfl hA.g (by simp [Rf.cs])
theorem OkT.blk {h : AH} {t : Nat} {S : Tp} {off : Nat → Prop} (hS : OkT h t S off) : ∃ sv wv jv qv, h.get t = some (.cells [.int .i64 S.q, .int .i64 S.r, sv, wv, jv, qv, .int .i64 S.ap, .int .i64 S.sq] .own) ∧ (∀ h, aLen T 51 qv h = some (.int .i64 (S.qs.length : Nat))) := by
  obtain ⟨R, hR, rfl, rfl⟩ := hS
  exact ⟨_, _, _, _, hR.g, fun h => by rw [show (tp R).qs = R.qs.map jv from rfl, List.length_map]; exact hR.u.1.len T51 d51⟩
/-- The queue's first job. -/
theorem OkT.first {h : AH} {t : Nat} {S : Tp} {off : Nat → Prop} (hS : OkT h t S off) {j : Int × List Int} {l : List (Int × List Int)} (hq : S.qs = j :: l) :
    ∃ sv wv jv qv b o cs kk d, h.get t = some (.cells [.int .i64 S.q, .int .i64 S.r, sv, wv, jv, qv, .int .i64 S.ap, .int .i64 S.sq] .own) ∧ (∀ h, aLen T 51 qv h = some (.int .i64 (S.qs.length : Nat))) ∧ aIndexAddr T 51 qv (.int .i64 0) = some (.ptr b o) ∧ h.get b = some (.cells cs kk) ∧ cs[o + 1]? = some d ∧
      Dat h d j.2 ∧ (∀ b o l k z x, d = .sl b o l k z x → ¬ off b) ∧
      ∃ q2, aSlice T 51 qv (some (.int .i64 1)) none none = some q2 ∧ ∃ h2 off2, aStore T 51 (.ptr t 5) q2 h = some h2 ∧ OkT h2 t { S with qs := l } off2 ∧ Stf h h2 off off2 := by
  obtain ⟨R, hR, rfl, rfl⟩ := hS
  have hq' : R.qs.map jv = j :: l := hq
  cases hqs : R.qs with
  | nil => rw [hqs] at hq'; cases hq'
  | cons a k =>
    rw [hqs] at hq'
    obtain ⟨e1, e2⟩ := List.cons.inj hq'
    have ha : a ∈ R.qs := by rw [hqs]; simp
    obtain ⟨b, o, cs, kk, g1, g2, g3, g4, g5, g6, g7, _⟩ := loadJG (i := 0) hR.u.1 (by rw [hqs]; rfl)
    obtain ⟨q2, s1', s2', s3', s4', s5'⟩ := hR.tailQ hqs
    have hm : a.d ∈ R.im := by simp only [Rf.im, List.mem_cons, List.mem_append]; exact .inr (.inr (.inr (.inl (List.mem_map_of_mem ha))))
    refine ⟨_, _, _, _, b, o, cs, kk, a.d, hR.g, fun h => by rw [show (tp R).qs = R.qs.map jv from rfl, List.length_map]; exact hR.u.1.len T51 d51, by have := g1; rw [Nat.zero_mul, Nat.add_zero] at this; exact this, g2, by have := g7; rw [Nat.zero_mul, Nat.add_zero] at this; exact this, by rw [← e1]; exact (hR.ud a ha).1, fun b o l k z x e g => g.2 _ hm _ _ _ _ _ _ e rfl, q2, s1', _, _, ?_, ⟨_, s3', ?_, rfl⟩, stfF s4' s5'⟩
    · exact store_1 (cs := R.cs) T51 s51 s2'.1 s2'.2 hR.g (by simp [Rf.cs])
    · show _ = tp _
      unfold tp
      rw [← e2]
def pieceN (S V : Tp) (len : Nat) : Int := if (len : Int) < S.ap + V.q then (len : Int) else S.ap + V.q
def fwT1 (S V : Tp) (j : Int × List Int) (l : List (Int × List Int)) : Int × Tp × Tp :=
  let b := pieceN S V j.2.length
  let r := SendT V 0 S.sq ((j.2.drop S.ap.toNat).take (b.toNat - S.ap.toNat)) (decide (b = (j.2.length : Int)))
  (0, (if r.1 = 0 then (if b = (j.2.length : Int) then { S with qs := l, ap := 0, sq := 1 } else { S with ap := b, sq := S.sq % 255 + 1 }) else S), r.2)
def fwT (S V : Tp) (t : Nat) : Int × Tp × Tp :=
  if S.qs = [] ∨ inW V.ws 0 ≠ none then (0, S, V)
  else match inS V.ss 0 with
  | none => (wantET V ⟨0, 0, .ptr t 0⟩, { S with ap := 0, sq := 1 }, { V with ws := wantPT V ⟨0, 0, .ptr t 0⟩ })
  | some i => match V.ss[i]?, S.qs with
    | some s, j :: l => fwT1 (if s.k = true then S else { S with ap := 0, sq := 1 }) V j l
    | _, _ => (0, S, V)
def FwP (t p : Nat) (h : AH) (S V : Tp) (offS offV : Nat → Prop) (r : Rs) : Prop := ∃ h2 offS2 offV2, r = some (.int .i64 (fwT S V t).1, h2) ∧ OkT h2 t (fwT S V t).2.1 offS2 ∧ OkT h2 p (fwT S V t).2.2 offV2 ∧ Apt offV2 offS2 ∧ h.next ≤ h2.next ∧ (∀ c, c < h.next → offV c → offS c → h2.get c = h.get c ∧ offV2 c ∧ offS2 c)
theorem L49 {I : Nat → Option (List AV → AH → Rs)} (h63 : I 63 = none) (h62 : I 62 = none) (h64 : I 64 = none) (h65 : I 65 = none) (h49 : I 49 = none) (m t p : Nat) (S V : Tp) (offS offV : Nat → Prop) (h : AH) (hS : OkT h t S offS) (hV : OkT h p V offV) (hA : Apt offV offS) (htp : ¬ p = t) (hr : 0 < S.r) (hqv : 1 ≤ V.q ∧ V.q ≤ 500) (hl : (S.ws.length ≤ 200 ∧ S.ss.length ≤ 200) ∧ V.ws.length ≤ 200 ∧ V.ss.length ≤ 200) (hjl : V.js.length ≤ 1000000 ∧ V.qs.length ≤ 1000000)
    (hbw : ∀ w ∈ V.ws, w.c = 0 → w.b = .ptr t 0) (hbs : ∀ s ∈ V.ss, s.c = 0 → s.b = .ptr t 0) (hb : ∀ s ∈ V.ss, (1 ≤ s.n ∧ s.n ≤ 255) ∧ s.d.length ≤ 5000) (hql : ∀ j ∈ S.qs, j.2.length ≤ 5000) (hsq : ∀ s ∈ V.ss, s.c = 0 → s.k = true → 1 ≤ S.sq ∧ S.sq ≤ 255) (hpre : ∀ s ∈ V.ss, s.c = 0 → s.k = true → ∀ j l, S.qs = j :: l → 0 ≤ S.ap ∧ S.ap ≤ (j.2.length : Int)) :
    FwP t p h S V offS offV (call F I T (m + 320) 49 [.ptr t 0, .ptr p 0] h) := by
  obtain ⟨svS, wvS, jvS, qvS, gS, lQ⟩ := hS.blk
  obtain ⟨RV, hRV, eV, eoV⟩ := hV
  subst eV
  subst eoV
  have hsl : RV.ss.length ≤ 200 := by have := hl.2.2; rw [show (tp RV).ss = RV.ss.map tc from rfl, List.length_map] at this; exact this
  have hwl : RV.ws.length ≤ 200 := hl.2.1
  have gV : h.get p = some (.cells [.int .i64 RV.q, .int .i64 RV.r, RV.sv, RV.wv, RV.jv, RV.qv, .int .i64 RV.ap, .int .i64 RV.sq] .own) := hRV.g
  have k1 := run63 h63 (m + 299) RV.sv RV.ss 0 h hRV.s ⟨by omega, by omega⟩
  have hw1 : RowC 7 h RV.wv (RV.ws.map rcw).length (rcs (RV.ws.map rcw)) := by rw [List.length_map]; exact hRV.w
  have k2 := run63 h63 (m + 299) RV.wv (RV.ws.map rcw) 0 h hw1 ⟨by rw [List.length_map]; omega, by rw [List.length_map]; omega⟩
  rw [at_ss] at k1
  rw [at_ws] at k2
  have cr : ¬ S.r = 0 := by omega
  have pe1 : aBin T .eql 40 (.ptr p 0) (.ptr t 0) h = some (.bool false) := by rw [pp_eql T40 d40 T103 (by rw [s103]; decide) gV gS, beq_ne htp]
  have pn1 : aBin T .neq 40 (.ptr t 0) (.ptr t 0) h = some (.bool false) := by rw [pp_neq T40 d40 T103 (by rw [s103]; decide) gS gS, beq_same]; rfl
  have stay : fwT S (tp RV) t = (0, S, tp RV) → FwP t p h S (tp RV) offS (RV.offF p) (some (.int .i64 0, h)) := fun e => by
    unfold FwP; rw [e]; exact ⟨h, offS, _, rfl, hS, ⟨RV, hRV, rfl, rfl⟩, hA, Nat.le_refl _, fun c hc h1 h2 => ⟨rfl, h1, h2⟩⟩
  have hsv : sameV RV.wv RV.wv = true := by
    rcases hRV.w with ⟨e, _⟩ | ⟨b, cap, ex, rest, e, _⟩ <;> rw [e]
    · rfl
    · simp [sameV]
  rw [call_code (by decide) h49 F49 rfl]; simp only [Tryd.f49, Option.getD]
  simp +contextual (maxSteps := 3000000) only [aCond_bool, ↓ops_nil, ↓ops_cons, run_none, run_someF, ↓run0_v, ↓seqK_normal, put_same, put_ne, env0_at, ev_tmp, ev_const, oc_int, oc_bool, oc_nilp, o_move, o_assign, o_pick, o_bin, o_load, o_nilCheck, o_fieldAddr, g_none, g_some, pick_bool, bin_eql, nil_ptr, Option.bind_some, Option.getD_some, decide_eq_true_eq, ↓reduceIte, Nat.reduceEqDiff, not_false_eq_true, Nat.reduceAdd, reduceCtorEq, List.getElem?_cons_zero, List.getElem?_cons_succ, List.getElem?_toArray, Bool.false_eq_true, ne_eq, ↓cd_skip, ↓cd_seq, ↓cd_region, ↓cd_cond, fa_ptr T103 p103_1 (by decide), load_p1 T3 a3, loadc_def, pn_eql T40 d40, gS, cr, pe1]
  rw [code_soft (ss := [(8, 0, 9)]) (by kernel_rfl) (by kernel_rfl) (by simp)]
  simp +contextual (maxSteps := 3000000) only [aCond_bool, ↓ops_nil, ↓ops_cons, run_none, run_someT, run_someF, ↓run0_v, ↓run0_r, ↓seqK_normal, ↓seqK_ret, ↓retK_ret, put_same, put_ne, put_none, env0_at, ev_tmp, ev_const, ev_func, oc_int, oc_bool, o_move, o_assign, o_pick, o_bin, o_call, o_len, o_build, o_load, o_store, o_nilCheck, o_un, o_fieldAddr, o_indexAddr, g_none, g_some, pick_bool, bin_lss, bin_geq, nil_ptr, resultsOf, oneOrAll, Option.bind_some, Option.map_some, Option.getD_some, decide_eq_true_eq, ↓reduceIte, Nat.reduceEqDiff, not_false_eq_true, Nat.reduceAdd, reduceCtorEq, List.getElem?_cons_zero, List.getElem?_cons_succ, List.getElem?_toArray, Bool.false_eq_true, List.map_cons, List.map_nil, List.append_nil, List.nil_append, List.cons_append, and_true, Nat.le_refl, ge_iff_le, ne_eq, ↓cd_skip, ↓cd_seq, ↓cd_region, ↓cd_cond, ↓cd_ret, loadc_def, fa_ptr T103 p103_2 (by decide), load_p1 T101 a101, fa_ptr T103 p103_3 (by decide), fa_ptr T103 p103_5 (by decide), load_p1 T51 a51, fa_ptr T103 p103_6 (by decide), fa_ptr T103 p103_7 (by decide), build_struct T106 d106, z106, parts_eq, fillA, AV.cells, AH.splice, List.take_succ_cons, List.take_zero, List.drop_succ_cons, List.drop_nil, List.length_cons, List.length_nil, p106_6, callV_fn (g := 62) (by decide), opsTr_nil, opsTr_cons, gV, k1, k2, callV_fn (g := 63) (by decide)]
  refine soft_Q (FwP t p h S (tp RV) offS (RV.offF p)) ?_ ?_
  rotate_left
  · simp +contextual (maxSteps := 3000000) only [run_none, ↓run0_v, put_same, ev_tmp, o_load, g_none, Nat.reduceAdd, List.getElem?_cons_zero, List.getElem?_cons_succ, List.getElem?_toArray, loadc_def, load_p1 T101 a101, softOk, sameAt, stepV, Bool.and_true, gV, hsv]
  have hSf : fwT S (tp RV) t = if S.qs = [] ∨ inW RV.ws 0 ≠ none then (0, S, tp RV) else match inS (RV.ss.map tc) 0 with
    | none => (wantET (tp RV) ⟨0, 0, .ptr t 0⟩, { S with ap := 0, sq := 1 }, { tp RV with ws := wantPT (tp RV) ⟨0, 0, .ptr t 0⟩ })
    | some i => match (RV.ss.map tc)[i]?, S.qs with
      | some s, j :: l => fwT1 (if s.k = true then S else { S with ap := 0, sq := 1 }) (tp RV) j l
      | _, _ => (0, S, tp RV) := rfl
  have c10 : (0 : Int) ≤ 0 := Int.le_refl 0
  have cm1 : ¬ (0 : Int) ≤ -1 := by decide
  cases hw : inW RV.ws 0 with
  | some iw =>
    have hiw := List.findIdx?_eq_some_iff_getElem.1 hw
    obtain ⟨w, hww⟩ : ∃ w, RV.ws[iw]? = some w := ⟨RV.ws[iw]'hiw.1, List.getElem?_eq_getElem hiw.1⟩
    have hwc : w.c = 0 := by
      have h2 := hiw.2.1
      rw [(List.getElem?_eq_some_iff.1 hww).2] at h2
      unfold pW at h2; simpa using h2
    have hwb := hbw w (List.mem_of_getElem? hww) hwc
    have hwm : (RV.ws.map rcw)[iw]? = some (rcw w) := by rw [List.getElem?_map, hww]; rfl
    obtain ⟨bw, csw, kw, x1, x2, _, _, _, _, _, _, _, _, _, x3, _⟩ := loadC hw1 hwm
    have x3' : csw[iw * 7 + 6]? = some (.ptr t 0) := by rw [x3]; exact congrArg some hwb
    have cw : (0 : Int) ≤ (iw : Int) := by omega
    have e1 := stay (by rw [hSf, if_pos (.inr (by rw [hw]; simp))])
    by_cases cq : (S.qs.length : Int) = 0
    · cases hs : inS (RV.ss.map tc) 0 with
      | some i =>
        have his := List.findIdx?_eq_some_iff_getElem.1 hs
        have hil : i < RV.ss.length := by have := his.1; rw [List.length_map] at this; exact this
        obtain ⟨s, hss⟩ : ∃ s, RV.ss[i]? = some s := ⟨RV.ss[i], List.getElem?_eq_getElem hil⟩
        have hsc : s.who = 0 := by
          have h2 := his.2.1
          rw [List.getElem_map, (List.getElem?_eq_some_iff.1 hss).2] at h2
          exact of_decide_eq_true h2
        have hsb := hbs (tc s) (List.mem_map_of_mem (List.mem_of_getElem? hss)) hsc
        obtain ⟨bs, css, ks, y1, y2, _, _, _, _, _, _, _, y4, _, y3, _⟩ := loadC hRV.s hss
        have y3' : css[i * 7 + 6]? = some (.ptr t 0) := by rw [y3]; exact congrArg some hsb
        have cs : (0 : Int) ≤ (i : Int) := by omega
        simp +contextual (maxSteps := 3000000) only [aCond_bool, run_someT, run_someF, ↓run0_v, pick_bool, bin_eql, bin_geq, nil_ptr, decide_eq_true_eq, ↓reduceIte, Nat.reduceAdd, List.getElem?_cons_zero, List.getElem?_cons_succ, Bool.false_eq_true, ge_iff_le, loadc_def, load_p1 T101 a101, fa_ptr T103 p103_3 (by decide), fa_ptr T106 p106_6 (by decide), load_p1 T40 a40, st_int T3 s3, gS, gV, ixO, cs, y1, y2, y3', cw, x1, x2, x3', pn1, lQ, eq_true cq]
        exact e1
      | none =>
        simp +contextual (maxSteps := 3000000) only [aCond_bool, run_someF, ↓run0_v, pick_bool, bin_eql, decide_eq_true_eq, ↓reduceIte, List.getElem?_cons_zero, List.getElem?_cons_succ, Bool.false_eq_true, loadc_def, fa_ptr T106 p106_6 (by decide), load_p1 T40 a40, st_int T3 s3, gS, ixO, cm1, cw, x1, x2, x3', pn1, lQ, eq_true cq]
        exact e1
    · cases hs : inS (RV.ss.map tc) 0 with
      | some i =>
        have his := List.findIdx?_eq_some_iff_getElem.1 hs
        have hil : i < RV.ss.length := by have := his.1; rw [List.length_map] at this; exact this
        obtain ⟨s, hss⟩ : ∃ s, RV.ss[i]? = some s := ⟨RV.ss[i], List.getElem?_eq_getElem hil⟩
        have hsc : s.who = 0 := by
          have h2 := his.2.1
          rw [List.getElem_map, (List.getElem?_eq_some_iff.1 hss).2] at h2
          exact of_decide_eq_true h2
        have hsb := hbs (tc s) (List.mem_map_of_mem (List.mem_of_getElem? hss)) hsc
        obtain ⟨bs, css, ks, y1, y2, _, _, _, _, _, _, _, y4, _, y3, _⟩ := loadC hRV.s hss
        have y3' : css[i * 7 + 6]? = some (.ptr t 0) := by rw [y3]; exact congrArg some hsb
        have cs : (0 : Int) ≤ (i : Int) := by omega
        simp +contextual (maxSteps := 3000000) only [aCond_bool, run_someT, run_someF, ↓run0_v, pick_bool, bin_eql, bin_geq, nil_ptr, decide_eq_true_eq, ↓reduceIte, Nat.reduceAdd, List.getElem?_cons_zero, List.getElem?_cons_succ, Bool.false_eq_true, ge_iff_le, loadc_def, load_p1 T101 a101, fa_ptr T103 p103_3 (by decide), fa_ptr T106 p106_6 (by decide), load_p1 T40 a40, st_int T3 s3, stm_own, List.length_cons, List.length_nil, fa_ptr T106 p106_4 (by decide), load_p1 T4 a4, gS, gV, ixO, cs, y1, y2, y3', cw, x1, x2, x3', pn1, lQ, cq]
        exact e1
      | none =>
        simp +contextual (maxSteps := 3000000) only [aCond_bool, run_someF, ↓run0_v, pick_bool, bin_eql, bin_geq, decide_eq_true_eq, ↓reduceIte, Nat.reduceAdd, List.getElem?_cons_zero, List.getElem?_cons_succ, Bool.false_eq_true, ge_iff_le, loadc_def, fa_ptr T106 p106_6 (by decide), load_p1 T40 a40, st_int T3 s3, stm_own, List.length_cons, List.length_nil, gS, gV, ixO, cm1, cw, x1, x2, x3', pn1, lQ, cq]
        exact e1
  | none =>
    by_cases cq : (S.qs.length : Int) = 0
    · have hq0 : S.qs = [] := List.length_eq_zero_iff.1 (by omega)
      have e1 := stay (by rw [hSf, if_pos (.inl hq0)])
      cases hs : inS (RV.ss.map tc) 0 with
      | some i =>
        have his := List.findIdx?_eq_some_iff_getElem.1 hs
        have hil : i < RV.ss.length := by have := his.1; rw [List.length_map] at this; exact this
        obtain ⟨s, hss⟩ : ∃ s, RV.ss[i]? = some s := ⟨RV.ss[i], List.getElem?_eq_getElem hil⟩
        have hsc : s.who = 0 := by
          have h2 := his.2.1
          rw [List.getElem_map, (List.getElem?_eq_some_iff.1 hss).2] at h2
          exact of_decide_eq_true h2
        have hsb := hbs (tc s) (List.mem_map_of_mem (List.mem_of_getElem? hss)) hsc
        obtain ⟨bs, css, ks, y1, y2, _, _, _, _, _, _, _, y4, _, y3, _⟩ := loadC hRV.s hss
        have y3' : css[i * 7 + 6]? = some (.ptr t 0) := by rw [y3]; exact congrArg some hsb
        have cs : (0 : Int) ≤ (i : Int) := by omega
        simp +contextual (maxSteps := 3000000) only [aCond_bool, run_someT, run_someF, ↓run0_v, pick_bool, bin_eql, bin_geq, decide_eq_true_eq, ↓reduceIte, List.getElem?_cons_zero, List.getElem?_cons_succ, Bool.false_eq_true, ge_iff_le, loadc_def, fa_ptr T106 p106_6 (by decide), load_p1 T40 a40, st_int T3 s3, gS, ixO, cs, cm1, y1, y2, y3', pn1, lQ, eq_true cq]
        exact e1
      | none =>
        simp +contextual (maxSteps := 3000000) only [aCond_bool, run_someF, ↓run0_v, pick_bool, bin_eql, decide_eq_true_eq, ↓reduceIte, List.getElem?_cons_zero, List.getElem?_cons_succ, st_int T3 s3, gS, ixO, cm1, lQ, eq_true cq]
        exact e1
    · have hq0 : ¬ S.qs = [] := fun g => cq (by rw [g]; rfl)
      rw [if_neg (by rw [hw]; simp [hq0])] at hSf
      cases hs : inS (RV.ss.map tc) 0 with
      | none =>
        rw [hs] at hSf
        obtain ⟨h1, h2, offS2, sa, sb, sc, sd, se, sf⟩ := hS.st67 0 1
        have hV2 := (OkT.other (o := offS) (o2 := offS2) ⟨RV, hRV, rfl, rfl⟩ hA.symm sd)
        obtain ⟨h3, offV3, ra, rb, rc⟩ := L62 h63 h62 (m + 19) p ⟨0, 0, .ptr t 0⟩ (tp RV) _ h2 hV2.1 (.inr ⟨t, 0, rfl⟩) ⟨hwl, by show (RV.ss.map tc).length ≤ 200; rw [List.length_map]; exact hsl⟩
        have ra' : call F I T (m + 319) 62 [.ptr p 0, .agg [.int .i64 0, .int .i64 0, .int .i64 0, .int .i64 0, .bool false, .nils, .ptr t 0]] h2 = some (.int .i64 (wantET (tp RV) ⟨0, 0, .ptr t 0⟩), h3) := ra
        have hS3 := sc.other hV2.2.symm rc
        simp +contextual (maxSteps := 3000000) only [aCond_bool, run_someF, ↓run0_v, ↓run0_h, ↓run0_r, pick_bool, bin_eql, bin_geq, decide_eq_true_eq, ↓reduceIte, List.getElem?_cons_zero, List.getElem?_cons_succ, ge_iff_le, run0_h, gS, ixO, cm1, lQ, cq, (show ((-1 : Int) < 0) = True by decide), sa, sb, ra']
        unfold FwP
        rw [hSf]
        refine ⟨h3, offS2, offV3, rfl, hS3.1, rb, hS3.2, Nat.le_trans sd.1 rc.1, fun c hc h1' h2' => ?_⟩
        have w1 := sd.2 c hc h2'
        have w2 := rc.2 c (Nat.lt_of_lt_of_le hc sd.1) h1'
        exact ⟨w2.1.trans w1.1, w2.2, w1.2⟩
      | some i =>
        rw [hs] at hSf
        have his := List.findIdx?_eq_some_iff_getElem.1 hs
        have hil : i < RV.ss.length := by have := his.1; rw [List.length_map] at this; exact this
        obtain ⟨s, hss⟩ : ∃ s, RV.ss[i]? = some s := ⟨RV.ss[i], List.getElem?_eq_getElem hil⟩
        have hsc : s.who = 0 := by
          have h2 := his.2.1
          rw [List.getElem_map, (List.getElem?_eq_some_iff.1 hss).2] at h2
          exact of_decide_eq_true h2
        have hsb := hbs (tc s) (List.mem_map_of_mem (List.mem_of_getElem? hss)) hsc
        obtain ⟨bs, css, ks, y1, y2, _, _, _, _, _, _, _, y4, _, y3, _⟩ := loadC hRV.s hss
        have y3' : css[i * 7 + 6]? = some (.ptr t 0) := by rw [y3]; exact congrArg some hsb
        have cs : (0 : Int) ≤ (i : Int) := by omega
        have hst : (RV.ss.map tc)[i]? = some (tc s) := by rw [List.getElem?_map, hss]; rfl
        obtain ⟨j, l, hjl'⟩ : ∃ j l, S.qs = j :: l := by
          cases hx : S.qs with
          | nil => exact absurd hx hq0
          | cons j l => exact ⟨j, l, rfl⟩
        have cs0 : ¬ (i : Int) < 0 := by omega
        have hj5 := hql j (by rw [hjl']; simp)
        have hF : fwT S (tp RV) t = fwT1 (if s.tk = true then S else { S with ap := 0, sq := 1 }) (tp RV) j l := by rw [hSf]; simp only [hst, hjl']; rfl
        rcases Bool.eq_false_or_eq_true s.tk with htk | htk
        · rw [htk] at y4
          obtain ⟨svB, wvB, jvB, qvB, bq, oq, csq, kq, dq, f1, f2, f3, f4, f5, f6, f7, q2, f8, _⟩ := (hS).first (show (S).qs = j :: l from hjl')
          have lend : ∀ h, aLen T 48 dq h = some (.int .i64 (j.2.length : Nat)) := fun h => RowC.len T48 d48 f6
          obtain ⟨sB, hsB⟩ : ∃ sB : Tp, sB = S := ⟨_, rfl⟩
          have hSB := hS
          rw [← hsB] at hSB f1 f2
          have hqB : sB.qs = j :: l := by rw [hsB]; exact hjl'
          have lQB : sB.qs.length = S.qs.length := by rw [hqB, hjl']
          rw [lQB] at f2
          have hapB : 0 ≤ sB.ap ∧ sB.ap ≤ (j.2.length : Int) := by rw [hsB]; exact hpre (tc s) (List.mem_map_of_mem (List.mem_of_getElem? hss)) hsc htk j l hjl'
          have hsqB : 1 ≤ sB.sq ∧ sB.sq ≤ 255 := by rw [hsB]; exact hsq (tc s) (List.mem_map_of_mem (List.mem_of_getElem? hss)) hsc htk
          have hqv1 : 1 ≤ RV.q := hqv.1
          have hqv2 : RV.q ≤ 500 := hqv.2
          have wap : IntKind.i64.wrap (sB.ap + RV.q) = sB.ap + RV.q := wrap_i64 (by omega) (by omega)
          obtain ⟨a, ha⟩ : ∃ a : Nat, sB.ap = (a : Int) := ⟨sB.ap.toNat, by omega⟩
          have han : sB.ap.toNat = a := by omega
          have hsw : sB.sq.tmod 255 = sB.sq % 255 := Int.tmod_eq_emod_of_nonneg (by omega)
          have hsw2 : IntKind.i64.wrap (sB.sq % 255) = sB.sq % 255 := wrap_i64 (by omega) (by omega)
          have hsw3 : IntKind.i64.wrap (sB.sq % 255 + 1) = sB.sq % 255 + 1 := wrap_i64 (by omega) (by omega)
          have hFB : fwT S (tp RV) t = fwT1 sB (tp RV) j l := by rw [hsB]; exact (by rw [hF, if_pos htk])
          have eqv : qvB = qvS := Option.some.inj (congrArg (fun o : Option AB => match o with | some (.cells l _) => l[5]? | _ => none) (f1.symm.trans gS))
          rw [eqv] at f1 f2 f3
          simp +contextual (maxSteps := 3000000) only [aCond_bool, run_someT, run_someF, ↓run0_v, pick_bool, bin_eql, bin_geq, un_not, decide_eq_true_eq, ↓reduceIte, List.getElem?_cons_zero, List.getElem?_cons_succ, Bool.false_eq_true, ge_iff_le, Bool.not_true, loadc_def, fa_ptr T106 p106_6 (by decide), load_p1 T40 a40, fa_ptr T106 p106_4 (by decide), load_p1 T4 a4, fa_ptr T58 p58_1 (by decide), load_p1 T48 a48, gV, ixO, cs, cs0, cm1, y1, y2, y3', y4, pn1, lQ, cq, f1, f3, f4, f5]
          rw [code_drawn (by kernel_rfl) (by kernel_rfl)]
          by_cases cb : (j.2.length : Int) < sB.ap + RV.q
          · have ce : (j.2.length : Int) = (j.2.length : Int) := rfl
            obtain ⟨bn, hbn⟩ : ∃ bn : Nat, (j.2.length : Int) = (bn : Int) := ⟨((j.2.length : Int)).toNat, by omega⟩
            have hpn0 : pieceN sB (tp RV) j.2.length = (j.2.length : Int) := by unfold pieceN; exact if_pos cb
            have hpn : pieceN sB (tp RV) j.2.length = (bn : Int) := by rw [hpn0, hbn]
            have ceb : (bn : Int) = (j.2.length : Int) := by omega
            obtain ⟨x, p1, p2, _⟩ := slice_pc (off := RV.offF p) a bn f6 (by omega) (by omega) (fun b o l k z x e => ((hA) b).resolve_right (f7 b o l k z x e))
            rw [← ha, ← hbn] at p1
            have hnew : (j.2.drop sB.ap.toNat).take (((bn : Int)).toNat - sB.ap.toNat) = (j.2.drop a).take (bn - a) := by rw [han, show ((bn : Int)).toNat = bn from rfl]
            obtain ⟨h6, offV6, u1, u2, u3⟩ := L65 h63 h64 h65 (m + 19) p 0 sB.sq x true (tp RV) _ h _ ⟨RV, hRV, rfl, rfl⟩ p2 hb (by rw [List.length_take, List.length_drop]; omega) ⟨hwl, by show (RV.ss.map tc).length ≤ 200; rw [List.length_map]; exact hsl⟩ hjl
            obtain ⟨hS6, hA6⟩ := hSB.other hA u3
            have hdec : decide ((bn : Int) = (j.2.length : Int)) = true := by rw [decide_eq_true ceb]
            have hE : fwT1 sB (tp RV) j l = (0, (if (SendT (tp RV) 0 sB.sq ((j.2.drop a).take (bn - a)) true).1 = 0 then (if (bn : Int) = (j.2.length : Int) then { sB with qs := l, ap := 0, sq := 1 } else { sB with ap := (bn : Int), sq := sB.sq % 255 + 1 }) else sB), (SendT (tp RV) 0 sB.sq ((j.2.drop a).take (bn - a)) true).2) := by
              unfold fwT1
              simp only [hpn, hnew, hdec]
            obtain ⟨er, her⟩ : ∃ er, er = SendT (tp RV) 0 sB.sq ((j.2.drop a).take (bn - a)) true := ⟨_, rfl⟩
            rw [← her] at u1 u2 hE
            simp +contextual (maxSteps := 3000000) only [aCond_bool, ↓ops_nil, ↓ops_cons, run_none, ↓run0_v, ↓seqK_normal, put_same, put_ne, env0_at, ev_tmp, o_move, o_assign, o_bin, o_len, o_load, o_nilCheck, o_fieldAddr, g_none, bin_add, bin_eql, bin_gtr, nil_ptr, Option.getD_some, decide_eq_true_eq, ↓reduceIte, Nat.reduceEqDiff, not_false_eq_true, Nat.reduceAdd, reduceCtorEq, List.getElem?_cons_zero, List.getElem?_cons_succ, gt_iff_lt, ne_eq, ↓cd_seq, ↓cd_region, ↓cd_cond, load_p1 T3 a3, loadc_def, fa_ptr T103 p103_6 (by decide), fa_ptr T103 p103_0 (by decide), f1, lend, gV, wap, cb]
            rw [code_drawn (by kernel_rfl) (by kernel_rfl)]
            by_cases ez : er.1 = 0
            rotate_left
            · simp +contextual (maxSteps := 3000000) only [aCond_bool, ↓ops_nil, ↓ops_cons, run_none, ↓run0_v, ↓run0_r, ↓seqK_normal, ↓seqK_ret, ↓retK_ret, put_same, put_ne, env0_at, ev_tmp, ev_const, ev_func, oc_int, o_move, o_assign, o_bin, o_call, o_load, o_nilCheck, o_slice, o_fieldAddr, g_none, bin_neq, nil_ptr, resultsOf, oneOrAll, Option.map_some, Option.map_none, Option.getD_some, ↓reduceIte, Nat.reduceEqDiff, not_false_eq_true, Nat.reduceAdd, reduceCtorEq, List.getElem?_cons_zero, List.getElem?_cons_succ, List.map_cons, List.map_nil, List.append_nil, List.nil_append, Bool.not_false, ne_eq, ↓cd_seq, ↓cd_region, ↓cd_cond, ↓cd_ret, load_p1 T3 a3, loadc_def, fa_ptr T103 p103_6 (by decide), fa_ptr T103 p103_7 (by decide), f1, decide_true, decide_false, p1, u1, callV_fn (g := 65) (by decide), ez]
              unfold FwP
              rw [hFB, hE, if_neg ez]
              exact ⟨h6, _, _, rfl, hS6, u2, hA6, u3.1, fun c hc h1' h2' => ⟨(u3.2 c hc h1').1, (u3.2 c hc h1').2, h2'⟩⟩
            · rw [ez] at u1
              obtain ⟨svC, wvC, jvC, qvC, gC, _⟩ := hS6.blk
              obtain ⟨h7a, h7, off7, v1, v2, v3, v4, v5, v6⟩ := hS6.st67 ((j.2.length : Int)) (sB.sq % 255 + 1)
              obtain ⟨hV7, hA7⟩ := u2.other hA6.symm v4
              obtain ⟨svD, wvD, jvD, qvD, bq', oq', csq', kq', dq', f1', f2', f3', f4', f5', f6', f7', q2', f8', h8, off8, r1, r2, r3⟩ := v3.first (show ({ sB with ap := (j.2.length : Int), sq := sB.sq % 255 + 1 } : Tp).qs = j :: l from hqB)
              obtain ⟨hV8, hA8⟩ := hV7.other hA7 r3
              obtain ⟨h9a, h9, off9, z1, z2, z3, z4, z5, z6⟩ := r2.st67 0 1
              obtain ⟨hV9, hA9⟩ := hV8.other hA8 z4
              simp +contextual (maxSteps := 3000000) only [aCond_bool, ↓ops_nil, ↓ops_cons, run_none, ↓run0_v, ↓run0_h, ↓run0_r, ↓seqK_normal, ↓retK_ret, put_same, put_ne, put_none, env0_at, ev_tmp, ev_const, ev_func, oc_int, o_move, o_assign, o_bin, o_call, o_load, o_store, o_nilCheck, o_slice, o_fieldAddr, g_none, bin_add, bin_rem, bin_neq, nil_ptr, resultsOf, oneOrAll, Option.map_some, Option.map_none, Option.getD_some, ↓reduceIte, Nat.reduceEqDiff, not_false_eq_true, Nat.reduceAdd, reduceCtorEq, List.getElem?_cons_zero, List.getElem?_cons_succ, Bool.false_eq_true, List.map_cons, List.map_nil, List.append_nil, List.nil_append, Bool.not_true, ne_eq, ↓cd_skip, ↓cd_seq, ↓cd_region, ↓cd_cond, ↓cd_ret, load_p1 T3 a3, loadc_def, fa_ptr T103 p103_5 (by decide), load_p1 T51 a51, fa_ptr T103 p103_6 (by decide), run0_h, fa_ptr T103 p103_7 (by decide), f1, decide_true, decide_false, p1, u1, callV_fn (g := 65) (by decide), gC, hsw, hsw3, (show ¬ (255 : Int) = 0 by decide), v1, v2, f1', f8', r1, z1, z2]
              unfold FwP
              rw [hFB, hE, if_pos ez, if_pos ceb]
              exact ⟨h9, _, _, rfl, z3, hV9, hA9.symm, by have := u3.1; have := v4.1; have := r3.1; have := z4.1; omega, fun c hc h1' h2' => by have w1 := u3.2 c hc h1'; have w2 := ((v4.trans r3).trans z4).2 c (Nat.lt_of_lt_of_le hc u3.1) h2'; exact ⟨w2.1.trans w1.1, w1.2, w2.2⟩⟩
          by_cases ce : sB.ap + RV.q = (j.2.length : Int)
          · obtain ⟨bn, hbn⟩ : ∃ bn : Nat, sB.ap + RV.q = (bn : Int) := ⟨(sB.ap + RV.q).toNat, by omega⟩
            have hpn0 : pieceN sB (tp RV) j.2.length = sB.ap + RV.q := by unfold pieceN; exact if_neg cb
            have hpn : pieceN sB (tp RV) j.2.length = (bn : Int) := by rw [hpn0, hbn]
            have ceb : (bn : Int) = (j.2.length : Int) := by omega
            obtain ⟨x, p1, p2, _⟩ := slice_pc (off := RV.offF p) a bn f6 (by omega) (by omega) (fun b o l k z x e => ((hA) b).resolve_right (f7 b o l k z x e))
            rw [← ha, ← hbn] at p1
            have hnew : (j.2.drop sB.ap.toNat).take (((bn : Int)).toNat - sB.ap.toNat) = (j.2.drop a).take (bn - a) := by rw [han, show ((bn : Int)).toNat = bn from rfl]
            obtain ⟨h6, offV6, u1, u2, u3⟩ := L65 h63 h64 h65 (m + 19) p 0 sB.sq x true (tp RV) _ h _ ⟨RV, hRV, rfl, rfl⟩ p2 hb (by rw [List.length_take, List.length_drop]; omega) ⟨hwl, by show (RV.ss.map tc).length ≤ 200; rw [List.length_map]; exact hsl⟩ hjl
            obtain ⟨hS6, hA6⟩ := hSB.other hA u3
            have hdec : decide ((bn : Int) = (j.2.length : Int)) = true := by rw [decide_eq_true ceb]
            have hE : fwT1 sB (tp RV) j l = (0, (if (SendT (tp RV) 0 sB.sq ((j.2.drop a).take (bn - a)) true).1 = 0 then (if (bn : Int) = (j.2.length : Int) then { sB with qs := l, ap := 0, sq := 1 } else { sB with ap := (bn : Int), sq := sB.sq % 255 + 1 }) else sB), (SendT (tp RV) 0 sB.sq ((j.2.drop a).take (bn - a)) true).2) := by
              unfold fwT1
              simp only [hpn, hnew, hdec]
            obtain ⟨er, her⟩ : ∃ er, er = SendT (tp RV) 0 sB.sq ((j.2.drop a).take (bn - a)) true := ⟨_, rfl⟩
            rw [← her] at u1 u2 hE
            simp +contextual (maxSteps := 3000000) only [aCond_bool, ↓ops_nil, ↓ops_cons, run_none, ↓run0_v, ↓seqK_normal, put_same, put_ne, env0_at, ev_tmp, o_move, o_assign, o_bin, o_len, o_load, o_nilCheck, o_fieldAddr, g_none, bin_add, bin_eql, bin_gtr, nil_ptr, Option.getD_some, decide_eq_true_eq, ↓reduceIte, Nat.reduceEqDiff, not_false_eq_true, Nat.reduceAdd, reduceCtorEq, List.getElem?_cons_zero, List.getElem?_cons_succ, gt_iff_lt, ne_eq, ↓cd_skip, ↓cd_seq, ↓cd_region, ↓cd_cond, load_p1 T3 a3, loadc_def, fa_ptr T103 p103_6 (by decide), fa_ptr T103 p103_0 (by decide), f1, lend, gV, wap, cb, eq_true ce]
            rw [code_drawn (by kernel_rfl) (by kernel_rfl)]
            by_cases ez : er.1 = 0
            rotate_left
            · simp +contextual (maxSteps := 3000000) only [aCond_bool, ↓ops_nil, ↓ops_cons, run_none, ↓run0_v, ↓run0_r, ↓seqK_normal, ↓seqK_ret, ↓retK_ret, put_same, put_ne, env0_at, ev_tmp, ev_const, ev_func, oc_int, o_move, o_assign, o_bin, o_call, o_load, o_nilCheck, o_slice, o_fieldAddr, g_none, bin_neq, nil_ptr, resultsOf, oneOrAll, Option.map_some, Option.map_none, Option.getD_some, ↓reduceIte, Nat.reduceEqDiff, not_false_eq_true, Nat.reduceAdd, reduceCtorEq, List.getElem?_cons_zero, List.getElem?_cons_succ, List.map_cons, List.map_nil, List.append_nil, List.nil_append, Bool.not_false, ne_eq, ↓cd_seq, ↓cd_region, ↓cd_cond, ↓cd_ret, load_p1 T3 a3, loadc_def, fa_ptr T103 p103_6 (by decide), fa_ptr T103 p103_7 (by decide), f1, decide_true, decide_false, p1, u1, callV_fn (g := 65) (by decide), ez]
              unfold FwP
              rw [hFB, hE, if_neg ez]
              exact ⟨h6, _, _, rfl, hS6, u2, hA6, u3.1, fun c hc h1' h2' => ⟨(u3.2 c hc h1').1, (u3.2 c hc h1').2, h2'⟩⟩
            · rw [ez] at u1
              obtain ⟨svC, wvC, jvC, qvC, gC, _⟩ := hS6.blk
              obtain ⟨h7a, h7, off7, v1, v2, v3, v4, v5, v6⟩ := hS6.st67 (sB.ap + RV.q) (sB.sq % 255 + 1)
              obtain ⟨hV7, hA7⟩ := u2.other hA6.symm v4
              obtain ⟨svD, wvD, jvD, qvD, bq', oq', csq', kq', dq', f1', f2', f3', f4', f5', f6', f7', q2', f8', h8, off8, r1, r2, r3⟩ := v3.first (show ({ sB with ap := sB.ap + RV.q, sq := sB.sq % 255 + 1 } : Tp).qs = j :: l from hqB)
              obtain ⟨hV8, hA8⟩ := hV7.other hA7 r3
              obtain ⟨h9a, h9, off9, z1, z2, z3, z4, z5, z6⟩ := r2.st67 0 1
              obtain ⟨hV9, hA9⟩ := hV8.other hA8 z4
              simp +contextual (maxSteps := 3000000) only [aCond_bool, ↓ops_nil, ↓ops_cons, run_none, ↓run0_v, ↓run0_h, ↓run0_r, ↓seqK_normal, ↓retK_ret, put_same, put_ne, put_none, env0_at, ev_tmp, ev_const, ev_func, oc_int, o_move, o_assign, o_bin, o_call, o_load, o_store, o_nilCheck, o_slice, o_fieldAddr, g_none, bin_add, bin_rem, bin_neq, nil_ptr, resultsOf, oneOrAll, Option.map_some, Option.map_none, Option.getD_some, ↓reduceIte, Nat.reduceEqDiff, not_false_eq_true, Nat.reduceAdd, reduceCtorEq, List.getElem?_cons_zero, List.getElem?_cons_succ, Bool.false_eq_true, List.map_cons, List.map_nil, List.append_nil, List.nil_append, Bool.not_true, ne_eq, ↓cd_skip, ↓cd_seq, ↓cd_region, ↓cd_cond, ↓cd_ret, load_p1 T3 a3, loadc_def, fa_ptr T103 p103_5 (by decide), load_p1 T51 a51, fa_ptr T103 p103_6 (by decide), run0_h, fa_ptr T103 p103_7 (by decide), f1, decide_true, decide_false, p1, u1, callV_fn (g := 65) (by decide), gC, hsw, hsw3, (show ¬ (255 : Int) = 0 by decide), v1, v2, f1', f8', r1, z1, z2]
              unfold FwP
              rw [hFB, hE, if_pos ez, if_pos ceb]
              exact ⟨h9, _, _, rfl, z3, hV9, hA9.symm, by have := u3.1; have := v4.1; have := r3.1; have := z4.1; omega, fun c hc h1' h2' => by have w1 := u3.2 c hc h1'; have w2 := ((v4.trans r3).trans z4).2 c (Nat.lt_of_lt_of_le hc u3.1) h2'; exact ⟨w2.1.trans w1.1, w1.2, w2.2⟩⟩
          obtain ⟨bn, hbn⟩ : ∃ bn : Nat, sB.ap + RV.q = (bn : Int) := ⟨(sB.ap + RV.q).toNat, by omega⟩
          have hpn0 : pieceN sB (tp RV) j.2.length = sB.ap + RV.q := by unfold pieceN; exact if_neg cb
          have hpn : pieceN sB (tp RV) j.2.length = (bn : Int) := by rw [hpn0, hbn]
          have ceb : ¬ (bn : Int) = (j.2.length : Int) := by omega
          obtain ⟨x, p1, p2, _⟩ := slice_pc (off := RV.offF p) a bn f6 (by omega) (by omega) (fun b o l k z x e => ((hA) b).resolve_right (f7 b o l k z x e))
          rw [← ha, ← hbn] at p1
          have hnew : (j.2.drop sB.ap.toNat).take (((bn : Int)).toNat - sB.ap.toNat) = (j.2.drop a).take (bn - a) := by rw [han, show ((bn : Int)).toNat = bn from rfl]
          obtain ⟨h6, offV6, u1, u2, u3⟩ := L65 h63 h64 h65 (m + 19) p 0 sB.sq x false (tp RV) _ h _ ⟨RV, hRV, rfl, rfl⟩ p2 hb (by rw [List.length_take, List.length_drop]; omega) ⟨hwl, by show (RV.ss.map tc).length ≤ 200; rw [List.length_map]; exact hsl⟩ hjl
          obtain ⟨hS6, hA6⟩ := hSB.other hA u3
          have hdec : decide ((bn : Int) = (j.2.length : Int)) = false := by rw [decide_eq_false ceb]
          have hE : fwT1 sB (tp RV) j l = (0, (if (SendT (tp RV) 0 sB.sq ((j.2.drop a).take (bn - a)) false).1 = 0 then (if (bn : Int) = (j.2.length : Int) then { sB with qs := l, ap := 0, sq := 1 } else { sB with ap := (bn : Int), sq := sB.sq % 255 + 1 }) else sB), (SendT (tp RV) 0 sB.sq ((j.2.drop a).take (bn - a)) false).2) := by
            unfold fwT1
            simp only [hpn, hnew, hdec]
          obtain ⟨er, her⟩ : ∃ er, er = SendT (tp RV) 0 sB.sq ((j.2.drop a).take (bn - a)) false := ⟨_, rfl⟩
          rw [← her] at u1 u2 hE
          simp +contextual (maxSteps := 3000000) only [aCond_bool, ↓ops_nil, ↓ops_cons, run_none, ↓run0_v, ↓seqK_normal, put_same, put_ne, env0_at, ev_tmp, o_move, o_assign, o_bin, o_len, o_load, o_nilCheck, o_fieldAddr, g_none, bin_add, bin_eql, bin_gtr, nil_ptr, Option.getD_some, decide_eq_true_eq, ↓reduceIte, Nat.reduceEqDiff, not_false_eq_true, Nat.reduceAdd, reduceCtorEq, List.getElem?_cons_zero, List.getElem?_cons_succ, gt_iff_lt, ne_eq, ↓cd_skip, ↓cd_seq, ↓cd_region, ↓cd_cond, load_p1 T3 a3, loadc_def, fa_ptr T103 p103_6 (by decide), fa_ptr T103 p103_0 (by decide), f1, lend, gV, wap, cb, ce]
          rw [code_drawn (by kernel_rfl) (by kernel_rfl)]
          by_cases ez : er.1 = 0
          rotate_left
          · simp +contextual (maxSteps := 3000000) only [aCond_bool, ↓ops_nil, ↓ops_cons, run_none, ↓run0_v, ↓run0_r, ↓seqK_normal, ↓seqK_ret, ↓retK_ret, put_same, put_ne, env0_at, ev_tmp, ev_const, ev_func, oc_int, o_move, o_assign, o_bin, o_call, o_load, o_nilCheck, o_slice, o_fieldAddr, g_none, bin_neq, nil_ptr, resultsOf, oneOrAll, Option.map_some, Option.map_none, Option.getD_some, ↓reduceIte, Nat.reduceEqDiff, not_false_eq_true, Nat.reduceAdd, reduceCtorEq, List.getElem?_cons_zero, List.getElem?_cons_succ, List.map_cons, List.map_nil, List.append_nil, List.nil_append, Bool.not_false, ne_eq, ↓cd_seq, ↓cd_region, ↓cd_cond, ↓cd_ret, load_p1 T3 a3, loadc_def, fa_ptr T103 p103_6 (by decide), fa_ptr T103 p103_7 (by decide), f1, decide_true, decide_false, p1, u1, callV_fn (g := 65) (by decide), ez]
            unfold FwP
            rw [hFB, hE, if_neg ez]
            exact ⟨h6, _, _, rfl, hS6, u2, hA6, u3.1, fun c hc h1' h2' => ⟨(u3.2 c hc h1').1, (u3.2 c hc h1').2, h2'⟩⟩
          · rw [ez] at u1
            obtain ⟨svC, wvC, jvC, qvC, gC, _⟩ := hS6.blk
            obtain ⟨h7a, h7, off7, v1, v2, v3, v4, v5, v6⟩ := hS6.st67 (sB.ap + RV.q) (sB.sq % 255 + 1)
            obtain ⟨hV7, hA7⟩ := u2.other hA6.symm v4
            simp +contextual (maxSteps := 3000000) only [aCond_bool, ↓ops_nil, ↓ops_cons, run_none, ↓run0_v, ↓run0_h, ↓run0_r, ↓seqK_normal, ↓retK_ret, put_same, put_ne, put_none, env0_at, ev_tmp, ev_const, ev_func, oc_int, o_move, o_assign, o_bin, o_call, o_load, o_store, o_nilCheck, o_slice, o_fieldAddr, g_none, bin_add, bin_rem, bin_neq, nil_ptr, resultsOf, oneOrAll, Option.map_some, Option.map_none, Option.getD_some, ↓reduceIte, Nat.reduceEqDiff, not_false_eq_true, Nat.reduceAdd, reduceCtorEq, List.getElem?_cons_zero, List.getElem?_cons_succ, Bool.false_eq_true, List.map_cons, List.map_nil, List.append_nil, List.nil_append, Bool.not_true, ne_eq, ↓cd_skip, ↓cd_seq, ↓cd_region, ↓cd_cond, ↓cd_ret, load_p1 T3 a3, loadc_def, fa_ptr T103 p103_6 (by decide), run0_h, fa_ptr T103 p103_7 (by decide), f1, decide_true, decide_false, p1, u1, callV_fn (g := 65) (by decide), gC, hsw, hsw3, (show ¬ (255 : Int) = 0 by decide), v1, v2]
            unfold FwP
            rw [hFB, hE, if_pos ez, if_neg ceb]
            rw [hbn] at v3
            exact ⟨h7, _, _, rfl, v3, hV7, hA7.symm, Nat.le_trans u3.1 v4.1, fun c hc h1' h2' => by have w1 := u3.2 c hc h1'; have w2 := v4.2 c (Nat.lt_of_lt_of_le hc u3.1) h2'; exact ⟨w2.1.trans w1.1, w1.2, w2.2⟩⟩
        · rw [htk] at y4
          obtain ⟨h1b, h2b, offS2, sa, sb, sc, sd, se, sf⟩ := hS.st67 0 1
          obtain ⟨hVb, hAb'⟩ := OkT.other (o := offS) (o2 := offS2) ⟨RV, hRV, rfl, rfl⟩ hA.symm sd
          have hAb := hAb'.symm
          have gVb : h2b.get p = some (.cells [.int .i64 RV.q, .int .i64 RV.r, RV.sv, RV.wv, RV.jv, RV.qv, .int .i64 RV.ap, .int .i64 RV.sq] .own) := by rw [sf p htp]; exact gV
          obtain ⟨svB, wvB, jvB, qvB, bq, oq, csq, kq, dq, f1, f2, f3, f4, f5, f6, f7, q2, f8, _⟩ := (sc).first (show ({ S with ap := 0, sq := 1 }).qs = j :: l from hjl')
          have lend : ∀ h, aLen T 48 dq h = some (.int .i64 (j.2.length : Nat)) := fun h => RowC.len T48 d48 f6
          obtain ⟨sB, hsB⟩ : ∃ sB : Tp, sB = { S with ap := 0, sq := 1 } := ⟨_, rfl⟩
          have hSB := sc
          rw [← hsB] at hSB f1 f2
          have hqB : sB.qs = j :: l := by rw [hsB]; exact hjl'
          have lQB : sB.qs.length = S.qs.length := by rw [hqB, hjl']
          rw [lQB] at f2
          have hapB : 0 ≤ sB.ap ∧ sB.ap ≤ (j.2.length : Int) := by rw [hsB]; exact ⟨Int.le_refl 0, Int.natCast_nonneg _⟩
          have hsqB : 1 ≤ sB.sq ∧ sB.sq ≤ 255 := by rw [hsB]; exact ⟨Int.le_refl 1, (by decide : (1 : Int) ≤ 255)⟩
          have hqv1 : 1 ≤ RV.q := hqv.1
          have hqv2 : RV.q ≤ 500 := hqv.2
          have wap : IntKind.i64.wrap (sB.ap + RV.q) = sB.ap + RV.q := wrap_i64 (by omega) (by omega)
          obtain ⟨a, ha⟩ : ∃ a : Nat, sB.ap = (a : Int) := ⟨sB.ap.toNat, by omega⟩
          have han : sB.ap.toNat = a := by omega
          have hsw : sB.sq.tmod 255 = sB.sq % 255 := Int.tmod_eq_emod_of_nonneg (by omega)
          have hsw2 : IntKind.i64.wrap (sB.sq % 255) = sB.sq % 255 := wrap_i64 (by omega) (by omega)
          have hsw3 : IntKind.i64.wrap (sB.sq % 255 + 1) = sB.sq % 255 + 1 := wrap_i64 (by omega) (by omega)
          have hFB : fwT S (tp RV) t = fwT1 sB (tp RV) j l := by rw [hsB]; exact (by rw [hF, if_neg (by rw [htk]; simp)])
          simp +contextual (maxSteps := 3000000) only [aCond_bool, run_someT, run_someF, ↓run0_v, ↓run0_h, pick_bool, bin_eql, bin_geq, un_not, decide_eq_true_eq, ↓reduceIte, List.getElem?_cons_zero, List.getElem?_cons_succ, Bool.false_eq_true, ge_iff_le, Bool.not_false, loadc_def, fa_ptr T106 p106_6 (by decide), load_p1 T40 a40, run0_h, fa_ptr T106 p106_4 (by decide), load_p1 T4 a4, fa_ptr T58 p58_1 (by decide), load_p1 T48 a48, gS, gV, ixO, cs, cs0, cm1, y1, y2, y3', y4, pn1, lQ, cq, sa, sb, f1, f3, f4, f5]
          rw [code_drawn (by kernel_rfl) (by kernel_rfl)]
          by_cases cb : (j.2.length : Int) < sB.ap + RV.q
          · have ce : (j.2.length : Int) = (j.2.length : Int) := rfl
            obtain ⟨bn, hbn⟩ : ∃ bn : Nat, (j.2.length : Int) = (bn : Int) := ⟨((j.2.length : Int)).toNat, by omega⟩
            have hpn0 : pieceN sB (tp RV) j.2.length = (j.2.length : Int) := by unfold pieceN; exact if_pos cb
            have hpn : pieceN sB (tp RV) j.2.length = (bn : Int) := by rw [hpn0, hbn]
            have ceb : (bn : Int) = (j.2.length : Int) := by omega
            obtain ⟨x, p1, p2, _⟩ := slice_pc (off := RV.offF p) a bn f6 (by omega) (by omega) (fun b o l k z x e => ((hAb) b).resolve_right (f7 b o l k z x e))
            rw [← ha, ← hbn] at p1
            have hnew : (j.2.drop sB.ap.toNat).take (((bn : Int)).toNat - sB.ap.toNat) = (j.2.drop a).take (bn - a) := by rw [han, show ((bn : Int)).toNat = bn from rfl]
            obtain ⟨h6, offV6, u1, u2, u3⟩ := L65 h63 h64 h65 (m + 19) p 0 sB.sq x true (tp RV) _ h2b _ hVb p2 hb (by rw [List.length_take, List.length_drop]; omega) ⟨hwl, by show (RV.ss.map tc).length ≤ 200; rw [List.length_map]; exact hsl⟩ hjl
            obtain ⟨hS6, hA6⟩ := hSB.other hAb u3
            have hdec : decide ((bn : Int) = (j.2.length : Int)) = true := by rw [decide_eq_true ceb]
            have hE : fwT1 sB (tp RV) j l = (0, (if (SendT (tp RV) 0 sB.sq ((j.2.drop a).take (bn - a)) true).1 = 0 then (if (bn : Int) = (j.2.length : Int) then { sB with qs := l, ap := 0, sq := 1 } else { sB with ap := (bn : Int), sq := sB.sq % 255 + 1 }) else sB), (SendT (tp RV) 0 sB.sq ((j.2.drop a).take (bn - a)) true).2) := by
              unfold fwT1
              simp only [hpn, hnew, hdec]
            obtain ⟨er, her⟩ : ∃ er, er = SendT (tp RV) 0 sB.sq ((j.2.drop a).take (bn - a)) true := ⟨_, rfl⟩
            rw [← her] at u1 u2 hE
            simp +contextual (maxSteps := 3000000) only [aCond_bool, ↓ops_nil, ↓ops_cons, run_none, ↓run0_v, ↓seqK_normal, put_same, put_ne, env0_at, ev_tmp, o_move, o_assign, o_bin, o_len, o_load, o_nilCheck, o_fieldAddr, g_none, bin_add, bin_eql, bin_gtr, nil_ptr, Option.getD_some, decide_eq_true_eq, ↓reduceIte, Nat.reduceEqDiff, not_false_eq_true, Nat.reduceAdd, reduceCtorEq, List.getElem?_cons_zero, List.getElem?_cons_succ, gt_iff_lt, ne_eq, ↓cd_seq, ↓cd_region, ↓cd_cond, load_p1 T3 a3, loadc_def, fa_ptr T103 p103_6 (by decide), fa_ptr T103 p103_0 (by decide), f1, lend, gVb, wap, cb]
            rw [code_drawn (by kernel_rfl) (by kernel_rfl)]
            by_cases ez : er.1 = 0
            rotate_left
            · simp +contextual (maxSteps := 3000000) only [aCond_bool, ↓ops_nil, ↓ops_cons, run_none, ↓run0_v, ↓run0_r, ↓seqK_normal, ↓seqK_ret, ↓retK_ret, put_same, put_ne, env0_at, ev_tmp, ev_const, ev_func, oc_int, o_move, o_assign, o_bin, o_call, o_load, o_nilCheck, o_slice, o_fieldAddr, g_none, bin_neq, nil_ptr, resultsOf, oneOrAll, Option.map_some, Option.map_none, Option.getD_some, ↓reduceIte, Nat.reduceEqDiff, not_false_eq_true, Nat.reduceAdd, reduceCtorEq, List.getElem?_cons_zero, List.getElem?_cons_succ, List.map_cons, List.map_nil, List.append_nil, List.nil_append, Bool.not_false, ne_eq, ↓cd_seq, ↓cd_region, ↓cd_cond, ↓cd_ret, load_p1 T3 a3, loadc_def, fa_ptr T103 p103_6 (by decide), fa_ptr T103 p103_7 (by decide), f1, decide_true, decide_false, p1, u1, callV_fn (g := 65) (by decide), ez]
              unfold FwP
              rw [hFB, hE, if_neg ez]
              exact ⟨h6, _, _, rfl, hS6, u2, hA6, Nat.le_trans sd.1 u3.1, fun c hc h1' h2' => by have w0 := sd.2 c hc h2'; have w1 := u3.2 c (Nat.lt_of_lt_of_le hc sd.1) h1'; exact ⟨w1.1.trans w0.1, w1.2, w0.2⟩⟩
            · rw [ez] at u1
              obtain ⟨svC, wvC, jvC, qvC, gC, _⟩ := hS6.blk
              obtain ⟨h7a, h7, off7, v1, v2, v3, v4, v5, v6⟩ := hS6.st67 ((j.2.length : Int)) (sB.sq % 255 + 1)
              obtain ⟨hV7, hA7⟩ := u2.other hA6.symm v4
              obtain ⟨svD, wvD, jvD, qvD, bq', oq', csq', kq', dq', f1', f2', f3', f4', f5', f6', f7', q2', f8', h8, off8, r1, r2, r3⟩ := v3.first (show ({ sB with ap := (j.2.length : Int), sq := sB.sq % 255 + 1 } : Tp).qs = j :: l from hqB)
              obtain ⟨hV8, hA8⟩ := hV7.other hA7 r3
              obtain ⟨h9a, h9, off9, z1, z2, z3, z4, z5, z6⟩ := r2.st67 0 1
              obtain ⟨hV9, hA9⟩ := hV8.other hA8 z4
              simp +contextual (maxSteps := 3000000) only [aCond_bool, ↓ops_nil, ↓ops_cons, run_none, ↓run0_v, ↓run0_h, ↓run0_r, ↓seqK_normal, ↓retK_ret, put_same, put_ne, put_none, env0_at, ev_tmp, ev_const, ev_func, oc_int, o_move, o_assign, o_bin, o_call, o_load, o_store, o_nilCheck, o_slice, o_fieldAddr, g_none, bin_add, bin_rem, bin_neq, nil_ptr, resultsOf, oneOrAll, Option.map_some, Option.map_none, Option.getD_some, ↓reduceIte, Nat.reduceEqDiff, not_false_eq_true, Nat.reduceAdd, reduceCtorEq, List.getElem?_cons_zero, List.getElem?_cons_succ, Bool.false_eq_true, List.map_cons, List.map_nil, List.append_nil, List.nil_append, Bool.not_true, ne_eq, ↓cd_skip, ↓cd_seq, ↓cd_region, ↓cd_cond, ↓cd_ret, load_p1 T3 a3, loadc_def, fa_ptr T103 p103_5 (by decide), load_p1 T51 a51, fa_ptr T103 p103_6 (by decide), run0_h, fa_ptr T103 p103_7 (by decide), f1, decide_true, decide_false, p1, u1, callV_fn (g := 65) (by decide), gC, hsw, hsw3, (show ¬ (255 : Int) = 0 by decide), v1, v2, f1', f8', r1, z1, z2]
              unfold FwP
              rw [hFB, hE, if_pos ez, if_pos ceb]
              exact ⟨h9, _, _, rfl, z3, hV9, hA9.symm, by have := sd.1; have := u3.1; have := v4.1; have := r3.1; have := z4.1; omega, fun c hc h1' h2' => by have w0 := sd.2 c hc h2'; have w1 := u3.2 c (Nat.lt_of_lt_of_le hc sd.1) h1'; have w2 := ((v4.trans r3).trans z4).2 c (by have := sd.1; have := u3.1; omega) w0.2; exact ⟨w2.1.trans (w1.1.trans w0.1), w1.2, w2.2⟩⟩
          by_cases ce : sB.ap + RV.q = (j.2.length : Int)
          · obtain ⟨bn, hbn⟩ : ∃ bn : Nat, sB.ap + RV.q = (bn : Int) := ⟨(sB.ap + RV.q).toNat, by omega⟩
            have hpn0 : pieceN sB (tp RV) j.2.length = sB.ap + RV.q := by unfold pieceN; exact if_neg cb
            have hpn : pieceN sB (tp RV) j.2.length = (bn : Int) := by rw [hpn0, hbn]
            have ceb : (bn : Int) = (j.2.length : Int) := by omega
            obtain ⟨x, p1, p2, _⟩ := slice_pc (off := RV.offF p) a bn f6 (by omega) (by omega) (fun b o l k z x e => ((hAb) b).resolve_right (f7 b o l k z x e))
            rw [← ha, ← hbn] at p1
            have hnew : (j.2.drop sB.ap.toNat).take (((bn : Int)).toNat - sB.ap.toNat) = (j.2.drop a).take (bn - a) := by rw [han, show ((bn : Int)).toNat = bn from rfl]
            obtain ⟨h6, offV6, u1, u2, u3⟩ := L65 h63 h64 h65 (m + 19) p 0 sB.sq x true (tp RV) _ h2b _ hVb p2 hb (by rw [List.length_take, List.length_drop]; omega) ⟨hwl, by show (RV.ss.map tc).length ≤ 200; rw [List.length_map]; exact hsl⟩ hjl
            obtain ⟨hS6, hA6⟩ := hSB.other hAb u3
            have hdec : decide ((bn : Int) = (j.2.length : Int)) = true := by rw [decide_eq_true ceb]
            have hE : fwT1 sB (tp RV) j l = (0, (if (SendT (tp RV) 0 sB.sq ((j.2.drop a).take (bn - a)) true).1 = 0 then (if (bn : Int) = (j.2.length : Int) then { sB with qs := l, ap := 0, sq := 1 } else { sB with ap := (bn : Int), sq := sB.sq % 255 + 1 }) else sB), (SendT (tp RV) 0 sB.sq ((j.2.drop a).take (bn - a)) true).2) := by
              unfold fwT1
              simp only [hpn, hnew, hdec]
            obtain ⟨er, her⟩ : ∃ er, er = SendT (tp RV) 0 sB.sq ((j.2.drop a).take (bn - a)) true := ⟨_, rfl⟩
            rw [← her] at u1 u2 hE
            simp +contextual (maxSteps := 3000000) only [aCond_bool, ↓ops_nil, ↓ops_cons, run_none, ↓run0_v, ↓seqK_normal, put_same, put_ne, env0_at, ev_tmp, o_move, o_assign, o_bin, o_len, o_load, o_nilCheck, o_fieldAddr, g_none, bin_add, bin_eql, bin_gtr, nil_ptr, Option.getD_some, decide_eq_true_eq, ↓reduceIte, Nat.reduceEqDiff, not_false_eq_true, Nat.reduceAdd, reduceCtorEq, List.getElem?_cons_zero, List.getElem?_cons_succ, gt_iff_lt, ne_eq, ↓cd_skip, ↓cd_seq, ↓cd_region, ↓cd_cond, load_p1 T3 a3, loadc_def, fa_ptr T103 p103_6 (by decide), fa_ptr T103 p103_0 (by decide), f1, lend, gVb, wap, cb, eq_true ce]
            rw [code_drawn (by kernel_rfl) (by kernel_rfl)]
            by_cases ez : er.1 = 0
            rotate_left
            · simp +contextual (maxSteps := 3000000) only [aCond_bool, ↓ops_nil, ↓ops_cons, run_none, ↓run0_v, ↓run0_r, ↓seqK_normal, ↓seqK_ret, ↓retK_ret, put_same, put_ne, env0_at, ev_tmp, ev_const, ev_func, oc_int, o_move, o_assign, o_bin, o_call, o_load, o_nilCheck, o_slice, o_fieldAddr, g_none, bin_neq, nil_ptr, resultsOf, oneOrAll, Option.map_some, Option.map_none, Option.getD_some, ↓reduceIte, Nat.reduceEqDiff, not_false_eq_true, Nat.reduceAdd, reduceCtorEq, List.getElem?_cons_zero, List.getElem?_cons_succ, List.map_cons, List.map_nil, List.append_nil, List.nil_append, Bool.not_false, ne_eq, ↓cd_seq, ↓cd_region, ↓cd_cond, ↓cd_ret, load_p1 T3 a3, loadc_def, fa_ptr T103 p103_6 (by decide), fa_ptr T103 p103_7 (by decide), f1, decide_true, decide_false, p1, u1, callV_fn (g := 65) (by decide), ez]
              unfold FwP
              rw [hFB, hE, if_neg ez]
              exact ⟨h6, _, _, rfl, hS6, u2, hA6, Nat.le_trans sd.1 u3.1, fun c hc h1' h2' => by have w0 := sd.2 c hc h2'; have w1 := u3.2 c (Nat.lt_of_lt_of_le hc sd.1) h1'; exact ⟨w1.1.trans w0.1, w1.2, w0.2⟩⟩
            · rw [ez] at u1
              obtain ⟨svC, wvC, jvC, qvC, gC, _⟩ := hS6.blk
              obtain ⟨h7a, h7, off7, v1, v2, v3, v4, v5, v6⟩ := hS6.st67 (sB.ap + RV.q) (sB.sq % 255 + 1)
              obtain ⟨hV7, hA7⟩ := u2.other hA6.symm v4
              obtain ⟨svD, wvD, jvD, qvD, bq', oq', csq', kq', dq', f1', f2', f3', f4', f5', f6', f7', q2', f8', h8, off8, r1, r2, r3⟩ := v3.first (show ({ sB with ap := sB.ap + RV.q, sq := sB.sq % 255 + 1 } : Tp).qs = j :: l from hqB)
              obtain ⟨hV8, hA8⟩ := hV7.other hA7 r3
              obtain ⟨h9a, h9, off9, z1, z2, z3, z4, z5, z6⟩ := r2.st67 0 1
              obtain ⟨hV9, hA9⟩ := hV8.other hA8 z4
              simp +contextual (maxSteps := 3000000) only [aCond_bool, ↓ops_nil, ↓ops_cons, run_none, ↓run0_v, ↓run0_h, ↓run0_r, ↓seqK_normal, ↓retK_ret, put_same, put_ne, put_none, env0_at, ev_tmp, ev_const, ev_func, oc_int, o_move, o_assign, o_bin, o_call, o_load, o_store, o_nilCheck, o_slice, o_fieldAddr, g_none, bin_add, bin_rem, bin_neq, nil_ptr, resultsOf, oneOrAll, Option.map_some, Option.map_none, Option.getD_some, ↓reduceIte, Nat.reduceEqDiff, not_false_eq_true, Nat.reduceAdd, reduceCtorEq, List.getElem?_cons_zero, List.getElem?_cons_succ, Bool.false_eq_true, List.map_cons, List.map_nil, List.append_nil, List.nil_append, Bool.not_true, ne_eq, ↓cd_skip, ↓cd_seq, ↓cd_region, ↓cd_cond, ↓cd_ret, load_p1 T3 a3, loadc_def, fa_ptr T103 p103_5 (by decide), load_p1 T51 a51, fa_ptr T103 p103_6 (by decide), run0_h, fa_ptr T103 p103_7 (by decide), f1, decide_true, decide_false, p1, u1, callV_fn (g := 65) (by decide), gC, hsw, hsw3, (show ¬ (255 : Int) = 0 by decide), v1, v2, f1', f8', r1, z1, z2]
              unfold FwP
              rw [hFB, hE, if_pos ez, if_pos ceb]
              exact ⟨h9, _, _, rfl, z3, hV9, hA9.symm, by have := sd.1; have := u3.1; have := v4.1; have := r3.1; have := z4.1; omega, fun c hc h1' h2' => by have w0 := sd.2 c hc h2'; have w1 := u3.2 c (Nat.lt_of_lt_of_le hc sd.1) h1'; have w2 := ((v4.trans r3).trans z4).2 c (by have := sd.1; have := u3.1; omega) w0.2; exact ⟨w2.1.trans (w1.1.trans w0.1), w1.2, w2.2⟩⟩
          obtain ⟨bn, hbn⟩ : ∃ bn : Nat, sB.ap + RV.q = (bn : Int) := ⟨(sB.ap + RV.q).toNat, by omega⟩
          have hpn0 : pieceN sB (tp RV) j.2.length = sB.ap + RV.q := by unfold pieceN; exact if_neg cb
          have hpn : pieceN sB (tp RV) j.2.length = (bn : Int) := by rw [hpn0, hbn]
          have ceb : ¬ (bn : Int) = (j.2.length : Int) := by omega
          obtain ⟨x, p1, p2, _⟩ := slice_pc (off := RV.offF p) a bn f6 (by omega) (by omega) (fun b o l k z x e => ((hAb) b).resolve_right (f7 b o l k z x e))
          rw [← ha, ← hbn] at p1
          have hnew : (j.2.drop sB.ap.toNat).take (((bn : Int)).toNat - sB.ap.toNat) = (j.2.drop a).take (bn - a) := by rw [han, show ((bn : Int)).toNat = bn from rfl]
          obtain ⟨h6, offV6, u1, u2, u3⟩ := L65 h63 h64 h65 (m + 19) p 0 sB.sq x false (tp RV) _ h2b _ hVb p2 hb (by rw [List.length_take, List.length_drop]; omega) ⟨hwl, by show (RV.ss.map tc).length ≤ 200; rw [List.length_map]; exact hsl⟩ hjl
          obtain ⟨hS6, hA6⟩ := hSB.other hAb u3
          have hdec : decide ((bn : Int) = (j.2.length : Int)) = false := by rw [decide_eq_false ceb]
          have hE : fwT1 sB (tp RV) j l = (0, (if (SendT (tp RV) 0 sB.sq ((j.2.drop a).take (bn - a)) false).1 = 0 then (if (bn : Int) = (j.2.length : Int) then { sB with qs := l, ap := 0, sq := 1 } else { sB with ap := (bn : Int), sq := sB.sq % 255 + 1 }) else sB), (SendT (tp RV) 0 sB.sq ((j.2.drop a).take (bn - a)) false).2) := by
            unfold fwT1
            simp only [hpn, hnew, hdec]
          obtain ⟨er, her⟩ : ∃ er, er = SendT (tp RV) 0 sB.sq ((j.2.drop a).take (bn - a)) false := ⟨_, rfl⟩
          rw [← her] at u1 u2 hE
          simp +contextual (maxSteps := 3000000) only [aCond_bool, ↓ops_nil, ↓ops_cons, run_none, ↓run0_v, ↓seqK_normal, put_same, put_ne, env0_at, ev_tmp, o_move, o_assign, o_bin, o_len, o_load, o_nilCheck, o_fieldAddr, g_none, bin_add, bin_eql, bin_gtr, nil_ptr, Option.getD_some, decide_eq_true_eq, ↓reduceIte, Nat.reduceEqDiff, not_false_eq_true, Nat.reduceAdd, reduceCtorEq, List.getElem?_cons_zero, List.getElem?_cons_succ, gt_iff_lt, ne_eq, ↓cd_skip, ↓cd_seq, ↓cd_region, ↓cd_cond, load_p1 T3 a3, loadc_def, fa_ptr T103 p103_6 (by decide), fa_ptr T103 p103_0 (by decide), f1, lend, gVb, wap, cb, ce]
          rw [code_drawn (by kernel_rfl) (by kernel_rfl)]
          by_cases ez : er.1 = 0
          rotate_left
          · simp +contextual (maxSteps := 3000000) only [aCond_bool, ↓ops_nil, ↓ops_cons, run_none, ↓run0_v, ↓run0_r, ↓seqK_normal, ↓seqK_ret, ↓retK_ret, put_same, put_ne, env0_at, ev_tmp, ev_const, ev_func, oc_int, o_move, o_assign, o_bin, o_call, o_load, o_nilCheck, o_slice, o_fieldAddr, g_none, bin_neq, nil_ptr, resultsOf, oneOrAll, Option.map_some, Option.map_none, Option.getD_some, ↓reduceIte, Nat.reduceEqDiff, not_false_eq_true, Nat.reduceAdd, reduceCtorEq, List.getElem?_cons_zero, List.getElem?_cons_succ, List.map_cons, List.map_nil, List.append_nil, List.nil_append, Bool.not_false, ne_eq, ↓cd_seq, ↓cd_region, ↓cd_cond, ↓cd_ret, load_p1 T3 a3, loadc_def, fa_ptr T103 p103_6 (by decide), fa_ptr T103 p103_7 (by decide), f1, decide_true, decide_false, p1, u1, callV_fn (g := 65) (by decide), ez]
            unfold FwP
            rw [hFB, hE, if_neg ez]
            exact ⟨h6, _, _, rfl, hS6, u2, hA6, Nat.le_trans sd.1 u3.1, fun c hc h1' h2' => by have w0 := sd.2 c hc h2'; have w1 := u3.2 c (Nat.lt_of_lt_of_le hc sd.1) h1'; exact ⟨w1.1.trans w0.1, w1.2, w0.2⟩⟩
          · rw [ez] at u1
            obtain ⟨svC, wvC, jvC, qvC, gC, _⟩ := hS6.blk
            obtain ⟨h7a, h7, off7, v1, v2, v3, v4, v5, v6⟩ := hS6.st67 (sB.ap + RV.q) (sB.sq % 255 + 1)
            obtain ⟨hV7, hA7⟩ := u2.other hA6.symm v4
            simp +contextual (maxSteps := 3000000) only [aCond_bool, ↓ops_nil, ↓ops_cons, run_none, ↓run0_v, ↓run0_h, ↓run0_r, ↓seqK_normal, ↓retK_ret, put_same, put_ne, put_none, env0_at, ev_tmp, ev_const, ev_func, oc_int, o_move, o_assign, o_bin, o_call, o_load, o_store, o_nilCheck, o_slice, o_fieldAddr, g_none, bin_add, bin_rem, bin_neq, nil_ptr, resultsOf, oneOrAll, Option.map_some, Option.map_none, Option.getD_some, ↓reduceIte, Nat.reduceEqDiff, not_false_eq_true, Nat.reduceAdd, reduceCtorEq, List.getElem?_cons_zero, List.getElem?_cons_succ, Bool.false_eq_true, List.map_cons, List.map_nil, List.append_nil, List.nil_append, Bool.not_true, ne_eq, ↓cd_skip, ↓cd_seq, ↓cd_region, ↓cd_cond, ↓cd_ret, load_p1 T3 a3, loadc_def, fa_ptr T103 p103_6 (by decide), run0_h, fa_ptr T103 p103_7 (by decide), f1, decide_true, decide_false, p1, u1, callV_fn (g := 65) (by decide), gC, hsw, hsw3, (show ¬ (255 : Int) = 0 by decide), v1, v2]
            unfold FwP
            rw [hFB, hE, if_pos ez, if_neg ceb]
            rw [hbn] at v3
            exact ⟨h7, _, _, rfl, v3, hV7, hA7.symm, by have := sd.1; have := u3.1; have := v4.1; omega, fun c hc h1' h2' => by have w0 := sd.2 c hc h2'; have w1 := u3.2 c (Nat.lt_of_lt_of_le hc sd.1) h1'; have w2 := v4.2 c (by have := sd.1; have := u3.1; omega) w0.2; exact ⟨w2.1.trans (w1.1.trans w0.1), w1.2, w2.2⟩⟩
end Go.AM.X
