/- What is put: rows of bytes, a network, a text. Own work. -/
import Derived.Test.YtdehanhonfbdpaaNbtB
import Derived.Test.YtdehanhonfbdpaaNbtD
namespace Go.AM.Sx
open Go Go.AM
set_option linter.unusedSimpArgs false
set_option linter.unusedVariables false
/-- A row, or a literal that is full. -/
def RowE (sz : Nat) (h : AH) (v : AV) (n : Nat) (cs : List AV) : Prop :=
  Row sz h v n cs ∨ (∃ b, v = .sl b 0 n n sz true ∧ 0 < n ∧ cs.length = n * sz ∧ b < h.next ∧ h.get b = some (.cells cs .own))
theorem RowE.lit {h : AH} {n : Nat} {cs : List AV} (hn : 0 < n) (hl : cs.length = n * 1) : RowE 1 (h.alloc (.cells cs .own)) (.sl h.next 0 n n 1 true) n cs :=
  .inr ⟨_, rfl, hn, hl, by simp, by rw [AH.get_alloc, if_pos rfl]⟩
theorem RowE.app {T : TT} {h : AH} {t xt el : Nat} {ti te : TI} {v x : AV} {n m sz : Nat} {cs new : List AV} (ht : T t = some ti) (hd : ti.desc = .slice el) (he : T el = some te) (hx : isSrc T xt = true) (hz : te.size = sz) (hb : 0 < te.bytes)
    (ho : RowE sz h v n cs) (hs : aSource te.size x h = some (m, new)) (hm : 0 < m) (hl : new.length = m * sz) (hone : new.all AV.one = true) (hsm : (n + m) * te.bytes < maxBytes) :
    ∃ b h2, aAppend T t xt v x h = some (.sl b 0 (n + m) (n + m) sz false, h2) ∧ Row sz h2 (.sl b 0 (n + m) (n + m) sz false) (n + m) (cs ++ new) ∧ h.next ≤ h2.next ∧ h.next ≤ b ∧ (∀ c, c < h.next → offRow v c → h2.get c = h.get c) := by
  rcases ho with ho | ⟨b, rfl, hn, hcl, hbn, hg⟩
  · exact ho.app ht hd he hx hz hb hs hm hl hone hsm
  · have := app_slx (h := h) (n := m) (len := n) (o := 0) ht hd he hx hs hb hz hg (by omega) (by omega) hsm
    have hcs : List.take (n * sz) (List.drop 0 cs) = cs := by rw [List.drop_zero, List.take_of_length_le (by omega)]
    rw [hcs] at this
    refine ⟨h.next, _, this, .inr ⟨h.next, rfl, by omega, by rw [List.length_append, hcl, hl, Nat.add_mul], by simp, ?_⟩, by simp, Nat.le_refl _, fun c hc hoff => ?_⟩
    · rw [AH.get_alloc, if_pos rfl]
    · rw [AH.get_alloc, if_neg (by omega)]
theorem RowE.frz {sz : Nat} {h : AH} {v : AV} {n : Nat} {cs cs' : List AV} (ho : RowE sz h v n cs) (k : Nat) (hf : frzMap (frzF false k h) cs = some cs') (hl : cs'.length = n * sz) : ∃ v0, frzF false (k + 1) h v = some v0 ∧ Wk v0 (.lst false sz n cs') := by
  rcases ho with ho | ⟨b, rfl, h1, h2', h3, h4⟩
  · exact ho.frz k hf hl
  · have h5 : List.take (n * sz) (List.drop 0 cs) = cs := by rw [List.drop_zero, List.take_of_length_le (by omega)]
    refine ⟨.lst (true && Nat.beq n n) sz n cs', ?_, Wk.lst _ _ _ _⟩
    simp only [frzF, h4, Bool.or_true, h5, hf]
    rw [if_pos (by omega)]
    simp
end Go.AM.Sx
namespace Go.AM.X
open Go Go.AM Go.Proofs Go.AM.Sx
set_option maxHeartbeats 400000
set_option maxRecDepth 100000
set_option linter.unusedSimpArgs false
set_option linter.unusedVariables false
theorem F81 : F 81 = some { body := (Try.f81.body.getD .skip), results := Try.f81.results.toList, rf := false } := by kernel_rfl
theorem R81 : regsOk T (Try.f81.body.getD .skip) = true := by kernel_rfl
def be2 (n : Int) : List UInt8 := [UInt8.ofNat (n.toNat / 256), UInt8.ofNat (n.toNat % 256)]
theorem toNat_ofNat {k : Nat} (h : k < 256) : (UInt8.ofNat k).toNat = k := by simp; omega
end Go.AM.X
namespace Go.AM.X
open Go Go.AM Go.Proofs Go.AM.Sx
set_option maxHeartbeats 400000
set_option maxRecDepth 100000
set_option linter.unusedSimpArgs false
set_option linter.unusedVariables false
def PB (g : List UInt8 × Int) (r : Rs) : Prop := ∃ h' v, r = some (.tup [v, .int .i64 g.2], h') ∧ RowE 1 h' v g.1.length (ofBytes g.1)
theorem src_lst1 {ex : Bool} {n : Nat} {cs : List AV} {h : AH} : aSource 1 (.lst ex 1 n cs) h = some (n, cs) := src_lst
end Go.AM.X
namespace Go.AM.X
open Go Go.AM Go.Proofs Go.AM.Sx
set_option maxHeartbeats 400000
set_option maxRecDepth 100000
set_option linter.unusedSimpArgs false
set_option linter.unusedVariables false
theorem zone_len {s : List UInt8} (h : isZone s = true) : 1 ≤ s.length ∧ s.length ≤ 31 := by
  simp only [isZone, Bool.and_eq_true, decide_eq_true_eq] at h
  exact h.1
theorem allocE {h : AH} {v : AV} {n : Nat} {cs : List AV} (hr : RowE 1 h v n cs) (x : AB) : RowE 1 (h.alloc x) v n cs := by
  rcases hr with hr | ⟨b, rfl, x1, x2, x3, x4⟩
  · exact .inl (hr.alloc _)
  · exact .inr ⟨b, rfl, x1, x2, by simp; omega, by rw [AH.get_alloc, if_neg (by omega)]; exact x4⟩
def putT (s : List UInt8) : List UInt8 := UInt8.ofNat s.length :: s
theorem putT_eq {s : List UInt8} (h : isZone s = true) : ofBytes (putT s) = AV.int .u8 (s.length : Int) :: ofBytes s := by
  have h1 := zone_len h
  have h2 : (UInt8.ofNat s.length).toNat = s.length := toNat_ofNat (by omega)
  simp only [ofBytes, putT, List.map_cons, h2]
noncomputable def g81 := G1 vStr fun s => if isZone s = true then some (.tup [.lst false 1 (putT s).length (ofBytes (putT s)), .int .i64 0]) else none
theorem run81 {I : Nat → Option (List AV → AH → Rs)}  (h81 : I 81 = none) (s : List UInt8) (m : Nat) (hz : isZone s = true) : PB (putT s, 0) (call F I T (m + 3) 81 [.str s] e0) := by
  obtain ⟨l1, l2⟩ := zone_len hz
  have c1 : ¬ ((31 : Int) < (s.length : Int)) := by omega
  have c2 : IntKind.u8.wrap (s.length : Int) = (s.length : Int) := wrap_u8 (by omega) (by omega)
  obtain ⟨bb, h2, happ, hrow2, hn1, hn2, hkeep⟩ := (RowE.lit (h := e0) (n := 1) (cs := [AV.int .u8 (s.length : Int)]) (by decide) rfl).app T25 d25 T5 (isSrc_str T9 d9) s5 (by rw [b5]; decide) (m := s.length) (new := ofBytes s) (x := .str s)
    (by rw [s5]; exact src_str) (by omega) (by simp [ofBytes]) (ofBytes_one _) (by rw [b5]; unfold maxBytes; omega)
  have happ' : aAppend T 25 9 (.sl 0 0 1 1 1 true) (.str s) (e0.alloc (.cells [AV.int .u8 (s.length : Int)] .own)) = some (.sl bb 0 (1 + s.length) (1 + s.length) 1 false, h2) := happ
  rw [call_F (by decide) h81 F81 rfl R81]; simp only [Try.f81, Option.getD]
  simp +contextual only [↓code_skip, ↓code_seq, ↓code_region, ↓code_cond, ↓code_block, ↓code_loop, ↓code_exit, ↓code_ret, aCond_bool, ↓ops_nil, ↓ops_cons, run_none, run_someT, run_someF, run_tup, ↓run0_v, ↓run0_h, ↓run0_r, ↓seqK_normal, ↓seqK_exit, ↓seqK_ret, ↓blkK_normal, ↓blkK_ret, ↓blkK_exit, ↓retK_normal, ↓retK_ret, put_same, put_ne, put_none, env0_at, ev_tmp, ev_const, ev_func, oc_int, oc_bool, oc_str, oc_nils, oc_nilp, oc_nilf, oc_nilm, o_move, o_assign, o_pick, o_bin, o_call, o_len, o_alloc, o_box, o_build, o_buildSlice, o_load, o_store, o_nilCheck, o_un, o_convert, o_makeFunc, o_makeSlice, o_slice, o_fieldAddr, o_field, o_indexAddr, o_index, o_extract, o_append, o_min, o_max, g_none, g_some, pick_bool, bin_add, bin_sub, bin_mul, bin_quo, bin_rem, bin_eql, bin_neq, bin_or, bin_and, bin_lss, bin_leq, bin_gtr, bin_geq, bin_shr, bin_shl, str_add, str_eql, str_neq, un_not, extract_tup, nil_ptr, nil_fp, part_1, part_A, next_e0, next_one, get_e0, resultsOf, oneOrAll, Option.bind_some, Option.map_some, Option.map_none, Option.getD_some, decide_eq_true_eq, ↓reduceIte, Nat.reduceEqDiff, not_false_eq_true, not_true_eq_false, Nat.reduceAdd, Nat.reduceMul, reduceCtorEq, if_true, if_false, Nat.succ_ne_self, List.getElem?_cons_zero, List.getElem?_cons_succ, List.getElem?_toArray, Bool.false_eq_true, Bool.true_eq_false, List.map_cons, List.map_nil, List.append_nil, List.nil_append, List.cons_append, AH.get_alloc, AH.get_put, AH.next_alloc, AH.next_put, ite_self, true_and, and_true, Nat.reduceLeDiff, Nat.le_refl, gt_iff_lt, ge_iff_le, Bool.not_eq_true', Bool.not_eq_eq_eq_not, Bool.not_true, Bool.not_false, Bool.not_eq_false', Bool.not_not, beq_iff_eq, bne_iff_ne, ne_eq, decide_eq_false_iff_not, len_str T9 d9, conv_int T3 T5 d5, buildSl T25 d25 T5 (n := 1) (by rw [s5]; decide), s5, z5, parts_eq, fill_nil, fillA, AV.cells, AH.splice, List.take_succ_cons, List.take_zero, List.take_nil, List.drop_succ_cons, List.drop_zero, List.drop_nil, List.length_cons, List.length_nil, repl, c1, c2, happ']
  refine ⟨_, _, rfl, ?_⟩
  have : (putT s).length = 1 + s.length := by simp [putT]; omega
  rw [this, putT_eq hz]
  exact .inl hrow2
theorem K81 {I : Nat → Option (List AV → AH → Rs)} (h81 : I 81 = some (pureG g81)) (m : Nat) (s : List UInt8) (h : AH) (hz : isZone s = true) : call F I T (m + 1) 81 [.str s] h = some (.tup [.lst false 1 (putT s).length (ofBytes (putT s)), .int .i64 0], h) := by
  rw [call_I (by decide) h81]; exact pureG_flat rfl (by simp [g81, G1, vStr, dStr, hz])
end Go.AM.X
namespace Go.AM.X.P
open Go Go.AM Go.Proofs Go.AM.Sx Go.AM.X
set_option maxHeartbeats 800000
set_option maxRecDepth 100000
set_option linter.unusedSimpArgs false
set_option linter.unusedVariables false
theorem F80 : F 80 = some { body := (Try.f80.body.getD .skip), results := Try.f80.results.toList, rf := false } := by kernel_rfl
theorem R80 : regsOk T (Try.f80.body.getD .skip) = true := by kernel_rfl
theorem F108 : F 108 = some { body := (Try.f108.body.getD .skip), results := Try.f108.results.toList, rf := false } := by kernel_rfl
theorem R108 : regsOk T (Try.f108.body.getD .skip) = true := by kernel_rfl
/-- An entry. -/
structure Nm where
  name : Ent
  net : Int
  node : Int
  sock : Int
  enum : Int
def Nm.cells (x : Nm) : List AV := [.str x.name.o, .str x.name.t, .str x.name.z, .int .i64 x.net, .int .i64 x.node, .int .i64 x.sock, .int .i64 x.enum]
def dNm : AV → Option Nm
  | .agg [.str a, .str b, .str c, .int .i64 d, .int .i64 e, .int .i64 f, .int .i64 g] => some ⟨⟨a, b, c⟩, d, e, f, g⟩
  | _ => none
def vNm : View Nm where
  enc x := .agg x.cells
  dec := dNm
  law a x h := by
    unfold dNm at h
    split at h
    · cases h; exact Wk.refl _
    · cases h
  flat _ := rfl
theorem cells_inj {x y : Nm} {a b : List AV} (h : x.cells ++ a = y.cells ++ b) : x = y ∧ a = b := by
  obtain ⟨⟨x1, x2, x3⟩, x4, x5, x6, x7⟩ := x
  obtain ⟨⟨y1, y2, y3⟩, y4, y5, y6, y7⟩ := y
  simp only [Nm.cells, List.cons_append, List.nil_append, List.cons.injEq, AV.str.injEq, AV.int.injEq, true_and] at h
  obtain ⟨h1, h2, h3, h4, h5, h6, h7, h8⟩ := h
  subst h1 h2 h3 h4 h5 h6 h7
  exact ⟨rfl, h8⟩
theorem flat_inj : ∀ {l m : List Nm}, l.flatMap Nm.cells = m.flatMap Nm.cells → l = m
  | [], [], _ => rfl
  | [], y :: m, h => by simp [Nm.cells] at h
  | x :: l, [], h => by simp [Nm.cells] at h
  | x :: l, y :: m, h => by
    rw [List.flatMap_cons, List.flatMap_cons] at h
    obtain ⟨h1, h2⟩ := cells_inj h
    rw [h1, flat_inj h2]
def nmL (l : List Nm) : AV := .lst false 7 l.length (l.flatMap Nm.cells)
theorem flatL_app : ∀ {a b : List AV}, flatL a = true → flatL b = true → flatL (a ++ b) = true
  | [], b, _, h => h
  | x :: a, b, h1, h2 => by
    simp only [flatL, Bool.and_eq_true] at h1
    simp only [List.cons_append, flatL, Bool.and_eq_true]
    exact ⟨h1.1, flatL_app h1.2 h2⟩
theorem flat_nms : ∀ l : List Nm, flatL (l.flatMap Nm.cells) = true
  | [] => rfl
  | x :: l => by rw [List.flatMap_cons]; exact flatL_app rfl (flat_nms l)
noncomputable def dNms (v : AV) : Option (List Nm) := open Classical in if h : ∃ l, v = nmL l then some h.choose else none
noncomputable def vNms : View (List Nm) where
  enc := nmL
  dec := dNms
  law a x h := by
    unfold dNms at h
    split at h
    · rename_i hx
      cases h
      have := hx.choose_spec
      rw [← this]
      exact Wk.refl _
    · cases h
  flat l := flat_nms l
theorem dNms_enc (l : List Nm) : vNms.dec (nmL l) = some l := by
  show dNms (nmL l) = some l
  have hx : ∃ m, nmL l = nmL m := ⟨l, rfl⟩
  unfold dNms
  rw [dif_pos hx]
  have h1 : nmL l = nmL hx.choose := hx.choose_spec
  unfold nmL at h1
  rw [AV.lst.injEq] at h1
  exact congrArg some (flat_inj h1.2.2.2).symm
theorem drop_nms : ∀ {l : List Nm} {i : Nat} (h : i < l.length), (l.flatMap Nm.cells).drop (i * 7) = l[i].cells ++ (l.drop (i + 1)).flatMap Nm.cells
  | x :: l, 0, _ => by rw [Nat.zero_mul, List.drop_zero]; rfl
  | x :: l, i + 1, h => by
    have h1 : i < l.length := by simpa using h
    rw [List.flatMap_cons, show (i + 1) * 7 = x.cells.length + i * 7 by simp [Nm.cells]; omega, ← List.drop_drop, List.drop_left]
    show _ = l[i].cells ++ (l.drop (i + 1)).flatMap Nm.cells
    exact drop_nms h1
noncomputable def isKind (k : Int) (e : Ent) : Bool := if k = 3 then isName e else isPattern e
noncomputable def g108 := open Classical in G2 (vInt .i64) vEnt fun k e => if okE e then some (.bool (isKind k e)) else none
theorem run108 {I : Nat → Option (List AV → AH → Rs)} (h42 : I 42 = some (pureG g42)) (h44 : I 44 = some (pureG g44)) (h108 : I 108 = none) (k : Int) (m : Nat) (e : Ent) (ho : okE e) : ∃ h', call F I T (m + 6) 108 [.int .i64 k, .agg e.cells] e0 = some (.bool (isKind k e), h') := by
  rw [call_F (by decide) h108 F108 rfl R108]; simp only [Try.f108, Option.getD]
  by_cases q : k = 3 <;> simp +contextual (maxSteps := 3000000) only [↓code_skip, ↓code_seq, ↓code_region, ↓code_cond, ↓code_block, ↓code_loop, ↓code_exit, ↓code_ret, aCond_bool, ↓ops_nil, ↓ops_cons, run_none, run_someT, run_someF, run_tup, ↓run0_v, ↓run0_h, ↓run0_r, ↓seqK_normal, ↓seqK_exit, ↓seqK_ret, ↓blkK_normal, ↓blkK_ret, ↓blkK_exit, ↓retK_normal, ↓retK_ret, put_same, put_ne, put_none, env0_at, ev_tmp, ev_const, ev_func, oc_int, oc_bool, oc_str, oc_nils, oc_nilp, oc_nilf, oc_nilm, o_move, o_assign, o_pick, o_bin, o_call, o_len, o_alloc, o_box, o_build, o_buildSlice, o_load, o_store, o_nilCheck, o_un, o_convert, o_makeFunc, o_makeSlice, o_slice, o_fieldAddr, o_field, o_indexAddr, o_index, o_extract, o_append, o_min, o_max, g_none, g_some, pick_bool, bin_add, bin_sub, bin_mul, bin_quo, bin_rem, bin_eql, bin_neq, bin_or, bin_and, bin_lss, bin_leq, bin_gtr, bin_geq, bin_shr, bin_shl, str_add, str_eql, str_neq, un_not, extract_tup, nil_ptr, nil_fp, part_1, part_A, next_e0, next_one, get_e0, resultsOf, oneOrAll, Option.bind_some, Option.map_some, Option.map_none, Option.getD_some, decide_eq_true_eq, ↓reduceIte, Nat.reduceEqDiff, not_false_eq_true, not_true_eq_false, Nat.reduceAdd, Nat.reduceMul, reduceCtorEq, if_true, if_false, Nat.succ_ne_self, List.getElem?_cons_zero, List.getElem?_cons_succ, List.getElem?_toArray, Bool.false_eq_true, Bool.true_eq_false, List.map_cons, List.map_nil, List.append_nil, List.nil_append, List.cons_append, AH.get_alloc, AH.get_put, AH.next_alloc, AH.next_put, ite_self, true_and, and_true, Nat.reduceLeDiff, Nat.le_refl, gt_iff_lt, ge_iff_le, Bool.not_eq_true', Bool.not_eq_eq_eq_not, Bool.not_true, Bool.not_false, Bool.not_eq_false', Bool.not_not, beq_iff_eq, bne_iff_ne, ne_eq, decide_eq_false_iff_not, box_str, box_int, box_bool, box_agg, box_lst, box_nils, box_sl, box_ptr, box_fn, load_fpA T48 a48, load_pA T48 a48, s48, loadn_def, callV_fn (g := 42) (by decide), K42 h42, callV_fn (g := 44) (by decide), K44 h44, Ent.cells, isKind, q, ho, List.length_cons, List.length_nil, List.drop_zero, List.take_succ_cons, List.take_zero, List.take_nil] <;> exact ⟨_, rfl⟩
theorem K108 {I : Nat → Option (List AV → AH → Rs)} (h108 : I 108 = some (pureG g108)) (m : Nat) (k : Int) (e : Ent) (h : AH) (ho : okE e) : call F I T (m + 1) 108 [.int .i64 k, .agg [.str e.o, .str e.t, .str e.z]] h = some (.bool (isKind k e), h) := by
  rw [call_I (by decide) h108]; exact pureG_flat rfl (by simp [g108, G2, vInt, dInt, vEnt, dEnt, ho])
noncomputable def isEnt (k : Int) (x : Nm) : Bool := within x.net 0 65279 && within x.node 0 255 && within x.sock 1 254 && within x.enum 0 255 && isKind k x.name
noncomputable def gEnt := open Classical in G2 (vInt .i64) vNm fun k x => if okE x.name then some (.bool (isEnt k x)) else none
noncomputable def g80 := gEnt
noncomputable def g82 := gEnt
theorem run80 {I : Nat → Option (List AV → AH → Rs)} (h79 : I 79 = none) (h108 : I 108 = some (pureG g108)) (h80 : I 80 = none) (k : Int) (m : Nat) (x : Nm) (ho : okE x.name) : ∃ h', call F I T (m + 6) 80 [.int .i64 k, .agg x.cells] e0 = some (.bool (isEnt k x), h') := by
  rw [call_F (by decide) h80 F80 rfl R80]; simp only [Try.f80, Option.getD]
  cases q1 : within x.net 0 65279 <;> cases q2 : within x.node 0 255 <;> cases q3 : within x.sock 1 254 <;> cases q4 : within x.enum 0 255 <;>
    simp +contextual (maxSteps := 3000000) only [↓code_skip, ↓code_seq, ↓code_region, ↓code_cond, ↓code_block, ↓code_loop, ↓code_exit, ↓code_ret, aCond_bool, ↓ops_nil, ↓ops_cons, run_none, run_someT, run_someF, run_tup, ↓run0_v, ↓run0_h, ↓run0_r, ↓seqK_normal, ↓seqK_exit, ↓seqK_ret, ↓blkK_normal, ↓blkK_ret, ↓blkK_exit, ↓retK_normal, ↓retK_ret, put_same, put_ne, put_none, env0_at, ev_tmp, ev_const, ev_func, oc_int, oc_bool, oc_str, oc_nils, oc_nilp, oc_nilf, oc_nilm, o_move, o_assign, o_pick, o_bin, o_call, o_len, o_alloc, o_box, o_build, o_buildSlice, o_load, o_store, o_nilCheck, o_un, o_convert, o_makeFunc, o_makeSlice, o_slice, o_fieldAddr, o_field, o_indexAddr, o_index, o_extract, o_append, o_min, o_max, g_none, g_some, pick_bool, bin_add, bin_sub, bin_mul, bin_quo, bin_rem, bin_eql, bin_neq, bin_or, bin_and, bin_lss, bin_leq, bin_gtr, bin_geq, bin_shr, bin_shl, str_add, str_eql, str_neq, un_not, extract_tup, nil_ptr, nil_fp, part_1, part_A, next_e0, next_one, get_e0, resultsOf, oneOrAll, Option.bind_some, Option.map_some, Option.map_none, Option.getD_some, decide_eq_true_eq, ↓reduceIte, Nat.reduceEqDiff, not_false_eq_true, not_true_eq_false, Nat.reduceAdd, Nat.reduceMul, reduceCtorEq, if_true, if_false, Nat.succ_ne_self, List.getElem?_cons_zero, List.getElem?_cons_succ, List.getElem?_toArray, Bool.false_eq_true, Bool.true_eq_false, List.map_cons, List.map_nil, List.append_nil, List.nil_append, List.cons_append, AH.get_alloc, AH.get_put, AH.next_alloc, AH.next_put, ite_self, true_and, and_true, Nat.reduceLeDiff, Nat.le_refl, gt_iff_lt, ge_iff_le, Bool.not_eq_true', Bool.not_eq_eq_eq_not, Bool.not_true, Bool.not_false, Bool.not_eq_false', Bool.not_not, beq_iff_eq, bne_iff_ne, ne_eq, decide_eq_false_iff_not, box_str, box_int, box_bool, box_agg, box_lst, box_nils, box_sl, box_ptr, box_fn, fa_ptr T70 p70_1 (by decide), fa_fp T70 p70_1 (by decide), fa_ptr T68 p68_0 (by decide), fa_fp T68 p68_0 (by decide), load_fp1 T3 a3, load_p1 T3 a3, loadc_def, fa_ptr T68 p68_1 (by decide), fa_fp T68 p68_1 (by decide), fa_ptr T70 p70_2 (by decide), fa_fp T70 p70_2 (by decide), fa_ptr T70 p70_3 (by decide), fa_fp T70 p70_3 (by decide), fa_ptr T70 p70_0 (by decide), fa_fp T70 p70_0 (by decide), load_fpA T48 a48, load_pA T48 a48, s48, loadn_def, callV_fn (g := 79) (by decide), K79 h79, callV_fn (g := 108) (by decide), K108 h108, Nm.cells, isEnt, q1, q2, q3, q4, ho, List.length_cons, List.length_nil, List.drop_zero, List.drop_succ_cons, List.take_succ_cons, List.take_zero, List.take_nil, Bool.true_and, Bool.false_and, Nat.add_zero] <;> exact ⟨_, rfl⟩
theorem K80 {I : Nat → Option (List AV → AH → Rs)} (h80 : I 80 = some (pureG g80)) (m : Nat) (k : Int) (x : Nm) (h : AH) (ho : okE x.name) : call F I T (m + 1) 80 [.int .i64 k, .agg [.str x.name.o, .str x.name.t, .str x.name.z, .int .i64 x.net, .int .i64 x.node, .int .i64 x.sock, .int .i64 x.enum]] h = some (.bool (isEnt k x), h) := by
  rw [call_I (by decide) h80]; exact pureG_flat rfl (by simp [g80, gEnt, G2, vInt, dInt, vNm, dNm, ho])
/-- A text of 1 to 31 bytes, put. -/
def isTx (s : List UInt8) : Prop := 1 ≤ s.length ∧ s.length ≤ 31
theorem putT_eq {s : List UInt8} (h : isTx s) : ofBytes (putT s) = AV.int .u8 (s.length : Int) :: ofBytes s := by
  have h1 := h.2
  have h2 : (UInt8.ofNat s.length).toNat = s.length := toNat_ofNat (by omega)
  simp only [ofBytes, putT, List.map_cons, h2]
noncomputable def g81 := open Classical in G1 vStr fun s => if isTx s then some (.tup [.lst false 1 (putT s).length (ofBytes (putT s)), .int .i64 0]) else none
theorem run81 {I : Nat → Option (List AV → AH → Rs)}  (h81 : I 81 = none) (s : List UInt8) (m : Nat) (hz : isTx s) : PB (putT s, 0) (call F I T (m + 3) 81 [.str s] e0) := by
  obtain ⟨l1, l2⟩ := id hz
  have c1 : ¬ ((31 : Int) < (s.length : Int)) := by omega
  have c2 : IntKind.u8.wrap (s.length : Int) = (s.length : Int) := wrap_u8 (by omega) (by omega)
  obtain ⟨bb, h2, happ, hrow2, hn1, hn2, hkeep⟩ := (RowE.lit (h := e0) (n := 1) (cs := [AV.int .u8 (s.length : Int)]) (by decide) rfl).app T25 d25 T5 (isSrc_str T9 d9) s5 (by rw [b5]; decide) (m := s.length) (new := ofBytes s) (x := .str s)
    (by rw [s5]; exact src_str) (by omega) (by simp [ofBytes]) (ofBytes_one _) (by rw [b5]; unfold maxBytes; omega)
  have happ' : aAppend T 25 9 (.sl 0 0 1 1 1 true) (.str s) (e0.alloc (.cells [AV.int .u8 (s.length : Int)] .own)) = some (.sl bb 0 (1 + s.length) (1 + s.length) 1 false, h2) := happ
  rw [call_F (by decide) h81 F81 rfl R81]; simp only [Try.f81, Option.getD]
  simp +contextual (maxSteps := 3000000) only [↓code_skip, ↓code_seq, ↓code_region, ↓code_cond, ↓code_block, ↓code_loop, ↓code_exit, ↓code_ret, aCond_bool, ↓ops_nil, ↓ops_cons, run_none, run_someT, run_someF, run_tup, ↓run0_v, ↓run0_h, ↓run0_r, ↓seqK_normal, ↓seqK_exit, ↓seqK_ret, ↓blkK_normal, ↓blkK_ret, ↓blkK_exit, ↓retK_normal, ↓retK_ret, put_same, put_ne, put_none, env0_at, ev_tmp, ev_const, ev_func, oc_int, oc_bool, oc_str, oc_nils, oc_nilp, oc_nilf, oc_nilm, o_move, o_assign, o_pick, o_bin, o_call, o_len, o_alloc, o_box, o_build, o_buildSlice, o_load, o_store, o_nilCheck, o_un, o_convert, o_makeFunc, o_makeSlice, o_slice, o_fieldAddr, o_field, o_indexAddr, o_index, o_extract, o_append, o_min, o_max, g_none, g_some, pick_bool, bin_add, bin_sub, bin_mul, bin_quo, bin_rem, bin_eql, bin_neq, bin_or, bin_and, bin_lss, bin_leq, bin_gtr, bin_geq, bin_shr, bin_shl, str_add, str_eql, str_neq, un_not, extract_tup, nil_ptr, nil_fp, part_1, part_A, next_e0, next_one, get_e0, resultsOf, oneOrAll, Option.bind_some, Option.map_some, Option.map_none, Option.getD_some, decide_eq_true_eq, ↓reduceIte, Nat.reduceEqDiff, not_false_eq_true, not_true_eq_false, Nat.reduceAdd, Nat.reduceMul, reduceCtorEq, if_true, if_false, Nat.succ_ne_self, List.getElem?_cons_zero, List.getElem?_cons_succ, List.getElem?_toArray, Bool.false_eq_true, Bool.true_eq_false, List.map_cons, List.map_nil, List.append_nil, List.nil_append, List.cons_append, AH.get_alloc, AH.get_put, AH.next_alloc, AH.next_put, ite_self, true_and, and_true, Nat.reduceLeDiff, Nat.le_refl, gt_iff_lt, ge_iff_le, Bool.not_eq_true', Bool.not_eq_eq_eq_not, Bool.not_true, Bool.not_false, Bool.not_eq_false', Bool.not_not, beq_iff_eq, bne_iff_ne, ne_eq, decide_eq_false_iff_not, len_str T9 d9, conv_int T3 T5 d5, buildSl T25 d25 T5 (n := 1) (by rw [s5]; decide), s5, z5, parts_eq, fill_nil, fillA, AV.cells, AH.splice, List.take_succ_cons, List.take_zero, List.take_nil, List.drop_succ_cons, List.drop_zero, List.drop_nil, List.length_cons, List.length_nil, repl, c1, c2, happ']
  refine ⟨_, _, rfl, ?_⟩
  have : (putT s).length = 1 + s.length := by simp [putT]; omega
  rw [this, putT_eq hz]
  exact .inl hrow2
theorem K81 {I : Nat → Option (List AV → AH → Rs)} (h81 : I 81 = some (pureG g81)) (m : Nat) (s : List UInt8) (h : AH) (hz : isTx s) : call F I T (m + 1) 81 [.str s] h = some (.tup [.lst false 1 (putT s).length (ofBytes (putT s)), .int .i64 0], h) := by
  rw [call_I (by decide) h81]; exact pureG_flat rfl (by simp [g81, G1, vStr, dStr, hz])
end Go.AM.X.P
