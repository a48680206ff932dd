/- The chain goes on, and the law on what is read of bytes. Own work. -/
import Derived.Test.YtdehanhonfbdpaaFf
import Derived.Test.YtdehanhonfbdpaaFk
import Derived.Test.YtdehanhonfbdpaaFn
namespace Go.AM.X
open Go Go.AM Go.Proofs Go.AM.Sx
set_option maxHeartbeats 400000
set_option maxRecDepth 100000
set_option linter.unusedSimpArgs false
set_option linter.unusedVariables false
theorem F5 : F 5 = some { body := (Try.f5.body.getD .skip), results := Try.f5.results.toList, rf := false } := by kernel_rfl
theorem R5 : regsOk T (Try.f5.body.getD .skip) = true := by kernel_rfl
theorem frz_tup2 {k : Nat} {h : AH} {v v0 w w0 : AV} {n : Int} (hv : frzF false k h v = some v0) (hw : frzF false k h w = some w0) : frzF false (k + 1) h (.tup [v, w, .int .i64 n]) = some (.tup [v0, w0, .int .i64 n]) := by
  cases k with
  | zero => simp [frzF] at hv
  | succ k =>
    show (frzMap (frzF false (k + 1) h) [v, w, .int .i64 n]).map AV.tup = _
    have h1 : frzF false (k + 1) h (.int .i64 n) = some (.int .i64 n) := rfl
    simp only [frzMap, hv, hw, h1, Option.map_some]
theorem dec_bytes (ex : Bool) (b : List UInt8) : (vList vByte).dec (.lst ex 1 b.length (b.map vByte.enc)) = some b := vList_dec dByte_enc' ex b
theorem flat1 (ex : Bool) (b : List UInt8) : flatL [AV.lst ex 1 b.length (b.map vByte.enc)] = true := by
  have h1 : flatL (b.map vByte.enc) = true := flatL_map (fun _ => rfl) b
  simp [flatL, AV.flat, h1]
theorem K26 {I : Nat → Option (List AV → AH → Rs)} (h26 : I 26 = some (pureG g26)) (m : Nat) (b : List UInt8) (ex : Bool) (h : AH) (hl : b.length < 140737488355328) : call F I T (m + 1) 26 [.lst ex 1 b.length (b.map vByte.enc)] h = some (t2q (getQ 1 netS b), h) := by
  rw [call_I (by decide) h26]
  refine pureG_flat (flat1 ex b) ?_
  show ((vList vByte).dec (.lst ex 1 b.length (b.map vByte.enc))).bind _ = _
  rw [dec_bytes]
  simp [hl]
theorem K27 {I : Nat → Option (List AV → AH → Rs)} (h27 : I 27 = some (pureG g27)) (m : Nat) (b : List UInt8) (ex : Bool) (h : AH) (hl : b.length < 140737488355328) : call F I T (m + 1) 27 [.lst ex 1 b.length (b.map vByte.enc)] h = some (t2q (refQ 1 rnetS b), h) := by
  rw [call_I (by decide) h27]
  refine pureG_flat (flat1 ex b) ?_
  show ((vList vByte).dec (.lst ex 1 b.length (b.map vByte.enc))).bind _ = _
  rw [dec_bytes]
  simp [hl]
theorem K28 {I : Nat → Option (List AV → AH → Rs)} (h28 : I 28 = some (pureG g28)) (m : Nat) (b : List UInt8) (ex : Bool) (h : AH) (hl : b.length < 140737488355328) : call F I T (m + 1) 28 [.lst ex 1 b.length (b.map vByte.enc)] h = some (t3q (getQ 2 stp b), h) := by
  rw [call_I (by decide) h28]
  refine pureG_flat (flat1 ex b) ?_
  show ((vList vByte).dec (.lst ex 1 b.length (b.map vByte.enc))).bind _ = _
  rw [dec_bytes]
  simp [hl]
theorem K29 {I : Nat → Option (List AV → AH → Rs)} (h29 : I 29 = some (pureG g29)) (m : Nat) (b : List UInt8) (ex : Bool) (h : AH) (hl : b.length < 140737488355328) : call F I T (m + 1) 29 [.lst ex 1 b.length (b.map vByte.enc)] h = some (t3q (refQ 2 rstp b), h) := by
  rw [call_I (by decide) h29]
  refine pureG_flat (flat1 ex b) ?_
  show ((vList vByte).dec (.lst ex 1 b.length (b.map vByte.enc))).bind _ = _
  rw [dec_bytes]
  simp [hl]
noncomputable def J1 := addI I14 102 (pureG g102)
theorem B1 : IAgree Try.prog J1 := agree3 hT hmix hF A14 (by decide) F102 fun x y z r hs => by
  split at hs
  · rename_i hc; cases hs; exact fin (run102 rfl rfl x y z 0 hc.1 hc.2) (fun h => by simp [t3, frzF, frzMap, AV.flat])
  · cases hs
noncomputable def J2 := addI J1 103 (pureG g103)
theorem B2 : IAgree Try.prog J2 := agree3 hT hmix hF B1 (by decide) F103 fun x y z r hs => by
  split at hs
  · rename_i hc; cases hs; exact fin (run103 rfl rfl x y z 0 hc.1 hc.2) (fun h => by simp [t3, frzF, frzMap, AV.flat])
  · cases hs
noncomputable def J3 := addI J2 30 (pureG g30)
theorem B3 : IAgree Try.prog J3 := agree2 hT hmix hF B2 (by decide) F30 fun x y r hs => by
  split at hs
  · rename_i hc; cases hs; exact fin (run30  rfl x y 0 hc.1 hc.2) (fun h => by simp [frzF, AV.flat])
  · cases hs
noncomputable def J4 := addI J3 31 (pureG g31)
theorem B4 : IAgree Try.prog J4 := agree2 hT hmix hF B3 (by decide) F31 fun x y r hs => by
  split at hs
  · rename_i hc; cases hs; exact fin (run31  rfl x y 0 hc.1 hc.2) (fun h => by simp [frzF, AV.flat])
  · cases hs
noncomputable def J5 := addI J4 26 (pureG g26)
theorem B5 : IAgree Try.prog J5 := agree1 hT hmix hF B4 (by decide) F26 fun x r hs => by
  split at hs
  · rename_i hc; cases hs
    obtain ⟨h', v, h1, h2⟩ := run26 (I := J4) rfl rfl rfl rfl rfl rfl x 0 hc
    obtain ⟨v0, h3, h4⟩ := h2.frz (al := false) 1 (frzMap_map (f := AV.int .i64) fun _ => by simp [frzF, AV.flat]) (by simp [lInt])
    exact ⟨_, _, _, _, _, h1, frz_tup1 h3, Wk.tup (WkL.cons h4 (WkL.cons (Wk.refl _) WkL.nil))⟩
  · cases hs
noncomputable def J6 := addI J5 27 (pureG g27)
theorem B6 : IAgree Try.prog J6 := agree1 hT hmix hF B5 (by decide) F27 fun x r hs => by
  split at hs
  · rename_i hc; cases hs
    obtain ⟨h', v, h1, h2⟩ := run27 (I := J5) rfl rfl rfl rfl rfl rfl x 0 hc
    obtain ⟨v0, h3, h4⟩ := h2.frz (al := false) 1 (frzMap_map (f := AV.int .i64) fun _ => by simp [frzF, AV.flat]) (by simp [lInt])
    exact ⟨_, _, _, _, _, h1, frz_tup1 h3, Wk.tup (WkL.cons h4 (WkL.cons (Wk.refl _) WkL.nil))⟩
  · cases hs
theorem fin28 {f : Nat} {I : Nat → Option (List AV → AH → Rs)} {n : Nat} {args : List AV} {g : List (Int × List UInt8) × Int} (hq : Q28 g (call F I T n f args e0)) :
    ∃ n k h1 v1 v0, call F I T n f args e0 = some (v1, h1) ∧ frzF false k h1 v1 = some v0 ∧ Wk v0 (t3q g) := by
  obtain ⟨h', v, w, h1, h2, h3⟩ := hq
  obtain ⟨v0, h4, h5⟩ := h2.frz (al := false) 1 (frzMap_map (f := fun x : Int × List UInt8 => AV.int .i64 x.1) fun _ => by simp [frzF, AV.flat]) (by simp [lFst])
  obtain ⟨w0, h6, h7⟩ := h3.frz (al := false) 1 (frzMap_map (f := fun x : Int × List UInt8 => AV.str x.2) fun _ => by simp [frzF, AV.flat]) (by simp [lSnd])
  exact ⟨_, _, _, _, _, h1, frz_tup2 h4 h6, Wk.tup (WkL.cons h5 (WkL.cons h7 (WkL.cons (Wk.refl _) WkL.nil)))⟩
noncomputable def J7 := addI J6 28 (pureG g28)
theorem B7 : IAgree Try.prog J7 := agree1 hT hmix hF B6 (by decide) F28 fun x r hs => by
  split at hs
  · rename_i hc; cases hs; exact fin28 (run28 rfl rfl rfl rfl rfl rfl rfl rfl rfl x 0 hc)
  · cases hs
noncomputable def J8 := addI J7 29 (pureG g29)
theorem B8 : IAgree Try.prog J8 := agree1 hT hmix hF B7 (by decide) F29 fun x r hs => by
  split at hs
  · rename_i hc; cases hs; exact fin28 (run29 rfl rfl rfl rfl rfl rfl rfl rfl rfl rfl x 0 hc)
  · cases hs
theorem gl_len {α : Type} (f : Int → Int → α × Int × Int) : ∀ (k : Nat) (p e : Int) (o : List α), (gl f k p e o).1.length ≤ o.length + k
  | 0, _, _, _ => by simp [gl]
  | k + 1, p, e, o => by
    simp only [gl]
    split
    · have := gl_len f k (f p e).2.1 (f p e).2.2 (o ++ [(f p e).1]); simp at this; omega
    · simp
theorem getQ_len (c : UInt8) {α : Type} (f : List UInt8 → Int → Int → α × Int × Int) (b : List UInt8) : (getQ c f b).1.length ≤ 100 := by
  have h1 := gl_len (f b) (beginS c b).1.toNat (beginS c b).2.1 (beginS c b).2.2 []
  have h2 := beginS_ok c b
  simp only [List.length_nil] at h1
  unfold getQ
  simp only
  split
  · simp only; omega
  · simp
theorem lFst_eq (l : List (Int × List UInt8)) : lFst l = (l.map Prod.fst).map (AV.int .i64) := by simp [lFst]
theorem lSnd_eq (l : List (Int × List UInt8)) : lSnd l = (l.map Prod.snd).map AV.str := by simp [lSnd]
theorem run5 {I : Nat → Option (List AV → AH → Rs)} (h12 : I 12 = some (pureG g12)) (h26 : I 26 = some (pureG g26)) (h27 : I 27 = some (pureG g27)) (h28 : I 28 = some (pureG g28)) (h29 : I 29 = some (pureG g29)) (h30 : I 30 = some (pureG g30)) (h31 : I 31 = some (pureG g31)) (h5 : I 5 = none) (b : List UInt8) (m : Nat) (hl : b.length < 140737488355328) :
    ∃ h', call F I T (m + 3) 5 [.lst false 1 b.length (b.map vByte.enc)] e0 = some (.bool true, h') := by
  have q1 := getQ_eq 1 b (net_rel b)
  have q2 := getQ_eq 2 b (stp_rel b)
  have l1 := getQ_len 1 netS b
  have l2 := getQ_len 2 stp b
  have r1 := fun m (h : AH) => K26 h26 m b false h hl
  have r2 := fun m (h : AH) => K27 h27 m b false h hl
  have r3 := fun m (h : AH) => K28 h28 m b false h hl
  have r4 := fun m (h : AH) => K29 h29 m b false h hl
  rw [← q1] at r2
  rw [← q2] at r4
  obtain ⟨x, hx⟩ : ∃ x, x = getQ 1 netS b := ⟨_, rfl⟩
  obtain ⟨y, hy⟩ : ∃ y, y = getQ 2 stp b := ⟨_, rfl⟩
  rw [← hx] at r1 r2 l1
  rw [← hy] at r3 r4 l2
  have s1 := fun m (h : AH) => K30 h30 m x.1 x.1 false false h (by omega) (by omega)
  have s2 := fun m (h : AH) => K30 h30 m (y.1.map Prod.fst) (y.1.map Prod.fst) false false h (by simp; omega) (by simp; omega)
  have s3 := fun m (h : AH) => K31 h31 m (y.1.map Prod.snd) (y.1.map Prod.snd) false false h (by simp; omega) (by simp; omega)
  rw [← lFst_eq, List.length_map] at s2
  rw [← lSnd_eq, List.length_map] at s3
  rw [call_F (by decide) h5 F5 rfl R5]; simp only [Try.f5, Option.getD]
  simp +contextual only [↓code_skip, ↓code_seq, ↓code_region, ↓code_cond, ↓code_block, ↓code_loop, ↓code_exit, ↓code_ret, aCond_bool, ↓ops_nil, ↓ops_cons, run_none, run_someT, run_someF, run_tup, ↓run0_v, ↓run0_h, ↓run0_r, ↓seqK_normal, ↓seqK_exit, ↓seqK_ret, ↓blkK_normal, ↓blkK_ret, ↓blkK_exit, ↓retK_normal, ↓retK_ret, put_same, put_ne, put_none, env0_at, ev_tmp, ev_const, ev_func, oc_int, oc_bool, oc_str, oc_nils, oc_nilp, oc_nilf, oc_nilm, o_move, o_assign, o_pick, o_bin, o_call, o_len, o_alloc, o_box, o_build, o_buildSlice, o_load, o_store, o_nilCheck, o_un, o_convert, o_makeFunc, o_makeSlice, o_slice, o_fieldAddr, o_field, o_indexAddr, o_index, o_extract, o_append, o_min, o_max, g_none, g_some, pick_bool, bin_add, bin_sub, bin_mul, bin_quo, bin_rem, bin_eql, bin_neq, bin_or, bin_and, bin_lss, bin_leq, bin_gtr, bin_geq, bin_shr, bin_shl, str_add, str_eql, str_neq, un_not, extract_tup, nil_ptr, nil_fp, part_1, part_A, next_e0, next_one, get_e0, resultsOf, oneOrAll, Option.bind_some, Option.map_some, Option.map_none, Option.getD_some, decide_eq_true_eq, ↓reduceIte, Nat.reduceEqDiff, not_false_eq_true, not_true_eq_false, Nat.reduceAdd, Nat.reduceMul, reduceCtorEq, if_true, if_false, Nat.succ_ne_self, List.getElem?_cons_zero, List.getElem?_cons_succ, List.getElem?_toArray, Bool.false_eq_true, Bool.true_eq_false, List.map_cons, List.map_nil, List.append_nil, List.nil_append, List.cons_append, AH.get_alloc, AH.get_put, AH.next_alloc, AH.next_put, ite_self, true_and, and_true, Nat.reduceLeDiff, Nat.le_refl, gt_iff_lt, ge_iff_le, Bool.not_eq_true', Bool.not_eq_eq_eq_not, Bool.not_true, Bool.not_false, Bool.not_eq_false', Bool.not_not, beq_iff_eq, bne_iff_ne, ne_eq, decide_eq_false_iff_not, callV_fn (g := 12) (by decide), K12 h12, callV_fn (g := 26) (by decide), K26 h26, callV_fn (g := 27) (by decide), K27 h27, callV_fn (g := 28) (by decide), K28 h28, callV_fn (g := 29) (by decide), K29 h29, callV_fn (g := 30) (by decide), K30 h30, callV_fn (g := 31) (by decide), K31 h31, r1, r2, r3, r4, s1, s2, s3, t2q, t3q, lInt, decide_true]
  exact ⟨_, rfl⟩
theorem law5 (b : List UInt8) (hl : b.length < 140737488355328) : ∃ h', call F J8 T 3 5 [.lst false 1 b.length (b.map vByte.enc)] e0 = some (.bool true, h') :=
  run5 rfl rfl rfl rfl rfl rfl rfl rfl b 0 hl
end Go.AM.X
