/- What was put is read back: the plain law. Own work. -/
import Derived.Test.YtdehanhonfbdpaaNbtH
import Derived.Test.YtdehanhonfbdpaaNbtK
namespace Go.AM.X.P
open Go Go.AM Go.Proofs Go.AM.Sx Go.AM.X
set_option maxHeartbeats 1600000
set_option maxRecDepth 100000
set_option linter.unusedSimpArgs false
set_option linter.unusedVariables false
/-- What lies from a place on. -/
def At (b : List UInt8) (p : Nat) (r : List UInt8) : Prop := p ≤ b.length ∧ b.drop p = r
theorem At.next {b : List UInt8} {p : Nat} {w r : List UInt8} (h : At b p (w ++ r)) : At b (p + w.length) r := by
  have hl : (b.drop p).length = (w ++ r).length := by rw [h.2]
  simp only [List.length_drop, List.length_append] at hl
  have := h.1
  refine ⟨by omega, ?_⟩
  rw [← List.drop_drop, h.2, List.drop_left]
theorem At.get {b : List UInt8} {p : Nat} {w r : List UInt8} (h : At b p (w ++ r)) (hw : w.length = 1 ∨ w.length = 2) : getS b p (w.length : Nat) = (((beN w : Nat) : Int), ((p + w.length : Nat) : Int), 0) := by
  have h1 := h.next.1
  have h2 : isWidth ((w.length : Nat) : Int) = true := by rcases hw with h | h <;> rw [h] <;> rfl
  have h3 := h.1
  unfold getS
  rw [if_pos ⟨h2, by omega, by omega⟩, if_neg (by omega)]
  simp only [toNat_cast, h.2, List.take_left]
  rfl
theorem At.num1 {b : List UInt8} {p : Nat} {c : UInt8} {r : List UInt8} (h : At b p (c :: r)) {lo hi : Int} (hc : lo ≤ (c.toNat : Nat) ∧ ((c.toNat : Nat) : Int) ≤ hi) : nuS 1 lo hi b p 0 = (((c.toNat : Nat) : Int), ((p + 1 : Nat) : Int), 0) := by
  have h1 := At.get (w := [c]) (r := r) h (.inl rfl)
  have h2 : getS b p 1 = (((c.toNat : Nat) : Int), ((p + 1 : Nat) : Int), 0) := by
    have h3 : beN [c] = c.toNat := by simp [beN]
    rw [h3] at h1; exact h1
  rw [nu_eq h2, mustS_t (within_t hc)]
theorem At.num2 {b : List UInt8} {p : Nat} {c d : UInt8} {r : List UInt8} (h : At b p (c :: d :: r)) {lo hi : Int} (hc : lo ≤ ((c.toNat * 256 + d.toNat : Nat) : Int) ∧ ((c.toNat * 256 + d.toNat : Nat) : Int) ≤ hi) : nuS 2 lo hi b p 0 = (((c.toNat * 256 + d.toNat : Nat) : Int), ((p + 2 : Nat) : Int), 0) := by
  have h1 := At.get (w := [c, d]) (r := r) h (.inr rfl)
  have h2 : getS b p 2 = (((c.toNat * 256 + d.toNat : Nat) : Int), ((p + 2 : Nat) : Int), 0) := by
    have h3 : beN [c, d] = c.toNat * 256 + d.toNat := by simp [beN]
    rw [h3] at h1; exact h1
  rw [nu_eq h2, mustS_t (within_t hc)]
theorem At.txt {b : List UInt8} {p : Nat} {s r : List UInt8} (h : At b p (putT s ++ r)) {w : Bool} (hs : isTx s) (hw : okTx w s = true) : txS w b p 0 = (s, ((p + (putT s).length : Nat) : Int), 0) := by
  have hl := hs.2
  have h0 : (UInt8.ofNat s.length).toNat = s.length := toNat_ofNat (by omega)
  have h1 := h.next.1
  have hpl := putT_len s
  have h2 : b[p]? = some (UInt8.ofNat s.length) := by
    have : (b.drop p)[0]? = some (UInt8.ofNat s.length) := by rw [h.2]; rfl
    rwa [List.getElem?_drop] at this
  have h3 : (b.drop (p + 1)).take s.length = s := by
    rw [← List.drop_drop, h.2]
    show ((s ++ r).take s.length) = s
    rw [List.take_left]
  have h4 : textS b p = (s, ((p + (putT s).length : Nat) : Int), 0) := by
    unfold textS
    rw [if_pos ⟨by omega, by omega⟩]
    simp only [toNat_cast, h2, h0]
    rw [if_neg (by omega), if_neg (by omega), h3, hpl]
    rw [show p + 1 + s.length = p + (s.length + 1) by omega]
  rw [tx_eq h4, mustS_t hw]
theorem u8_at {k : Nat} (h : k < 256) : (UInt8.ofNat k).toNat = k := toNat_ofNat h
theorem okTx_ent {k : Int} {x : Nm} (h : isEnt k x = true) : okTx (!decide (k = 3)) x.name.o = true ∧ okTx (!decide (k = 3)) x.name.t = true ∧ okTx true x.name.z = true := by
  have ho := ok_ent h
  unfold isEnt at h
  simp only [Bool.and_eq_true] at h
  have hk := h.2
  have l1 := ho.o
  have l2 := ho.t
  have l3 := ho.z
  refine ⟨okTx_t l1 ?_, okTx_t l2 ?_, okTx_t l3 (.inl rfl)⟩
  · by_cases q : k = 3
    · right
      rw [isKind, if_pos q, isName, Bool.and_eq_true, Bool.and_eq_true] at hk
      simpa using hk.1.2
    · left; simp [q]
  · by_cases q : k = 3
    · right
      rw [isKind, if_pos q, isName, Bool.and_eq_true] at hk
      simpa using hk.2
    · left; simp [q]
theorem At.entry {b : List UInt8} {p : Nat} {k : Int} {x : Nm} {r : List UInt8} (h : At b p (ent x ++ r)) (hx : isEnt k x = true) : entS k b p 0 = (x, ((p + (ent x).length : Nat) : Int), 0) ∧ At b (p + (ent x).length) r := by
  refine ⟨?_, h.next⟩
  obtain ⟨y1, y2, y3, y4, t1, t2, t3⟩ := ok_ent hx
  obtain ⟨w1, w2, w3⟩ := okTx_ent hx
  have b1 := u8_at (k := x.net.toNat / 256) (by omega)
  have b2 := u8_at (k := x.net.toNat % 256) (by omega)
  have b3 := u8_at (k := x.node.toNat) (by omega)
  have b4 := u8_at (k := x.sock.toNat) (by omega)
  have b5 := u8_at (k := x.enum.toNat) (by omega)
  have e0 : ent x ++ r = UInt8.ofNat (x.net.toNat / 256) :: UInt8.ofNat (x.net.toNat % 256) :: UInt8.ofNat x.node.toNat :: UInt8.ofNat x.sock.toNat :: UInt8.ofNat x.enum.toNat :: (putT x.name.o ++ (putT x.name.t ++ (putT x.name.z ++ r))) := by
    simp [ent, five, be2, txs]
  rw [e0] at h
  have h1 := At.next (w := [_, _]) h
  have n1 := h.num2 (lo := 0) (hi := 65279) (by rw [b1, b2]; omega)
  have h2 := At.next (w := [_]) h1
  have n2 := h1.num1 (lo := 0) (hi := 255) (by rw [b3]; omega)
  have h3 := At.next (w := [_]) h2
  have n3 := h2.num1 (lo := 1) (hi := 254) (by rw [b4]; omega)
  have h4 : At b _ (putT x.name.o ++ (putT x.name.t ++ (putT x.name.z ++ r))) := At.next (w := [_]) h3
  have n4 := h3.num1 (lo := 0) (hi := 255) (by rw [b5]; omega)
  have h5 := h4.next
  have n5 := h4.txt t1 w1
  have h6 := h5.next
  have n6 := h5.txt t2 w2
  have n7 := h6.txt t3 w3
  simp only [List.length_cons, List.length_nil, Nat.zero_add, Nat.reduceAdd] at n1 n2 n3 n4 n5 n6 n7
  have v1 : ((((UInt8.ofNat (x.net.toNat / 256)).toNat * 256 + (UInt8.ofNat (x.net.toNat % 256)).toNat : Nat)) : Int) = x.net := by rw [b1, b2]; omega
  have v2 : (((UInt8.ofNat x.node.toNat).toNat : Nat) : Int) = x.node := by rw [b3]; omega
  have v3 : (((UInt8.ofNat x.sock.toNat).toNat : Nat) : Int) = x.sock := by rw [b4]; omega
  have v4 : (((UInt8.ofNat x.enum.toNat).toNat : Nat) : Int) = x.enum := by rw [b5]; omega
  rw [v1] at n1
  rw [v2] at n2
  rw [v3] at n3
  rw [v4] at n4
  have hlen : (ent x).length = 5 + ((putT x.name.o).length + ((putT x.name.t).length + (putT x.name.z).length)) := by
    simp [ent, five, be2, txs]
    omega
  simp only [entS, n1, n2, n3, n4, n5, n6, n7]
  rw [hlen, show p + 2 + 1 + 1 + 1 + (putT x.name.o).length + (putT x.name.t).length + (putT x.name.z).length = p + (5 + ((putT x.name.o).length + ((putT x.name.t).length + (putT x.name.z).length))) by omega]
theorem At.all {b : List UInt8} {k : Int} : ∀ {l : List Nm} {p : Nat} {o : List Nm}, At b p (l.flatMap ent) → (∀ x ∈ l, isEnt k x = true) → gN k b l.length p 0 o = (o ++ l, ((b.length : Nat) : Int), 0)
  | [], p, o, h, _ => by
    have h1 := h.1
    have h2 : (b.drop p).length = 0 := by rw [h.2]; rfl
    rw [List.length_drop] at h2
    simp only [gN, List.length_nil, List.append_nil]
    rw [show p = b.length by omega]
  | x :: l, p, o, h, hx => by
    rw [List.flatMap_cons] at h
    obtain ⟨h1, h2⟩ := h.entry (hx x (by simp))
    rw [List.length_cons, gN, h1]
    simp only
    rw [At.all h2 (fun y hy => hx y (by simp [hy]))]
    simp
theorem back {k id : Int} {l : List Nm} (h : good k id l = true) : getN (pk k id l.length l) = (k, id, l, 0) := by
  unfold good at h
  simp only [Bool.and_eq_true, within_iff] at h
  obtain ⟨⟨⟨h1, h2⟩, h3⟩, h4⟩ := h
  have hall := List.all_eq_true.1 h4
  obtain ⟨b, hb⟩ : ∃ b, b = pk k id l.length l := ⟨_, rfl⟩
  have hbe : b = UInt8.ofNat (k.toNat * 16 + l.length) :: UInt8.ofNat id.toNat :: l.flatMap ent := by rw [hb]; rfl
  have c1 := u8_at (k := k.toNat * 16 + l.length) (by omega)
  have c2 := u8_at (k := id.toNat) (by omega)
  rw [← hb]
  have hh : hdS b = (UInt8.ofNat (k.toNat * 16 + l.length), 1, 0) := by rw [hbe]; rfl
  have hK : kindS b = k := by unfold kindS; rw [hh]; simp only; rw [c1]; omega
  have hM : manyS b = l.length := by unfold manyS; rw [hh]; simp only; rw [c1]; omega
  have hE : e1S b = 0 := by
    unfold e1S
    rw [hK, hM, hh, within_t h1, show decide (0 < l.length) = true from decide_eq_true (by omega)]; rfl
  have a1 : At b 1 (UInt8.ofNat id.toNat :: l.flatMap ent) := ⟨by rw [hbe]; simp, by rw [hbe]; rfl⟩
  have a2 : At b 2 (l.flatMap ent) := At.next (w := [_]) a1
  have hI : idS b = (id, 2, 0) := by
    unfold idS
    rw [hE, hh]
    have := a1.num1 (lo := 0) (hi := 255) (by rw [c2]; omega)
    rw [c2, show ((id.toNat : Nat) : Int) = id by omega] at this
    exact this
  have hA : allS b = (l, ((b.length : Nat) : Int), 0) := by
    unfold allS
    rw [hK, hM, hI]
    have := At.all (k := k) (o := []) a2 hall
    rw [List.nil_append] at this
    exact this
  have hE2 : e2S b = 0 := by unfold e2S; rw [hA]; simp [mustS]
  unfold getN
  rw [hE2, if_pos rfl, hK, hI, hA]
end Go.AM.X.P
namespace Go.AM.X.P
open Go Go.AM Go.Proofs Go.AM.Sx Go.AM.X
set_option maxHeartbeats 1600000
set_option maxRecDepth 100000
set_option linter.unusedSimpArgs false
set_option linter.unusedVariables false
noncomputable def Bk1 := addI V8 108 (pureG g108)
theorem Ck1 : IAgree Try.prog Bk1 := agree2 hT hmix hF U8 (by decide) F108 fun x y r hs => by
  split at hs
  · rename_i hc; cases hs; exact fin (run108 rfl rfl rfl x 0 y hc) (fun h => by simp [frzF, AV.flat])
  · cases hs
noncomputable def Bk2 := addI Bk1 80 (pureG g80)
theorem Ck2 : IAgree Try.prog Bk2 := agree2 hT hmix hF Ck1 (by decide) F80 fun x y r hs => by
  split at hs
  · rename_i hc; cases hs; exact fin (run80 rfl rfl rfl x 0 y hc) (fun h => by simp [frzF, AV.flat])
  · cases hs
noncomputable def Bk3 := addI Bk2 81 (pureG g81)
theorem Ck3 : IAgree Try.prog Bk3 := agree1 hT hmix hF Ck2 (by decide) F81 fun x r hs => by
  split at hs
  · rename_i hc; cases hs; exact finPB (run81  rfl x 0 hc)
  · cases hs
noncomputable def Bk4 := addI Bk3 38 (pureG g38)
theorem Ck4 : IAgree Try.prog Bk4 := agree3 hT hmix hF Ck3 (by decide) F38 fun x y z r hs => by
  split at hs
  · rename_i hc; cases hs; exact finPB (run38 rfl rfl rfl rfl x y z 0 hc.1 hc.2)
  · cases hs
noncomputable def Bk5 := addI Bk4 102 (pureG g102)
theorem Ck5 : IAgree Try.prog Bk5 := agree3 hT hmix hF Ck4 (by decide) F102 fun x y z r hs => by
  split at hs
  · rename_i hc; cases hs; exact fin (run102 rfl rfl x y z 0 hc.1 hc.2) (fun h => by simp [t3, frzF, frzMap, AV.flat])
  · cases hs
noncomputable def Bk6 := addI Bk5 46 (pureG g46)
theorem Ck6 : IAgree Try.prog Bk6 := agree1 hT hmix hF Ck5 (by decide) F46 fun x r hs => by
  split at hs
  · rename_i hc; cases hs; exact finPG (run46 rfl rfl rfl rfl rfl rfl rfl rfl rfl rfl rfl rfl rfl rfl x 0 hc)
  · cases hs
noncomputable def Bk7 := addI Bk6 48 (pureG g48)
theorem Ck7 : IAgree Try.prog Bk7 := agree2 hT hmix hF Ck6 (by decide) F48 fun x y r hs => by
  split at hs
  · rename_i hc; obtain ⟨rfl, hc⟩ := hc; cases hs; exact fin (run48  rfl x 0 hc) (fun h => by simp [frzF, AV.flat])
  · cases hs
theorem neq48 (e : Ent) (h : AH) : aBin T .neq 48 (.agg [.str e.o, .str e.t, .str e.z]) (.agg [.str e.o, .str e.t, .str e.z]) h = some (.bool false) :=
  st_neq T48 d48 (conf48 e) (conf48 e) eqk48 (eqc48 e)
theorem F11 : F 11 = some { body := (Try.f11.body.getD .skip), results := Try.f11.results.toList, rf := false } := by kernel_rfl
theorem R11 : regsOk T (Try.f11.body.getD .skip) = true := by kernel_rfl
theorem len3 (x : Nm) (r : List AV) : (3 ≤ (AV.str x.name.o :: AV.str x.name.t :: AV.str x.name.z :: AV.int .i64 x.net :: AV.int .i64 x.node :: AV.int .i64 x.sock :: AV.int .i64 x.enum :: r).length) = True := by
  simp
theorem run11 {I : Nat → Option (List AV → AH → Rs)} (h32 : I 32 = some (pureG g32)) (h33 : I 33 = some (pureG g33)) (h35 : I 35 = some (pureG g35)) (h38 : I 38 = some (pureG g38)) (h46 : I 46 = some (pureG g46)) (h48 : I 48 = some (pureG g48)) (h11 : I 11 = none) (kd id : Int) (l : List Nm) (m : Nat) (h1 : okNms l) (h2 : l.length < 140737488355328) :
    ∃ h', call F I T (m + 60) 11 [.int .i64 kd, .int .i64 id, .lst false 7 l.length (l.flatMap Nm.cells)] e0 = some (.bool true, h') := by
  rw [call_F (by decide) h11 F11 rfl R11]; simp only [Try.f11, Option.getD]
  by_cases hb : 30 < l.length
  · simp +contextual (maxSteps := 3000000) only [↓code_skip, ↓code_seq, ↓code_region, ↓code_cond, ↓code_block, ↓code_scope, ↓code_label, ↓code_loop, ↓code_exit, ↓code_ret, aCond_bool, ↓ops_nil, ↓ops_cons, run_none, run_someT, run_someF, run_tup, ↓run0_v, ↓run0_h, ↓run0_r, ↓seqK_normal, ↓seqK_exit, ↓seqK_ret, ↓blkK_normal, ↓blkK_ret, ↓blkK_exit, ↓retK_normal, ↓retK_ret, put_same, put_ne, put_none, env0_at, ev_tmp, ev_const, ev_func, oc_int, oc_bool, oc_str, oc_nils, oc_nilp, oc_nilf, oc_nilm, o_move, o_assign, o_pick, o_bin, o_call, o_len, o_alloc, o_box, o_build, o_buildSlice, o_load, o_store, o_nilCheck, o_un, o_convert, o_makeFunc, o_makeSlice, o_slice, o_fieldAddr, o_field, o_indexAddr, o_index, o_extract, o_append, o_min, o_max, g_none, g_some, pick_bool, bin_add, bin_sub, bin_mul, bin_quo, bin_rem, bin_eql, bin_neq, bin_or, bin_and, bin_lss, bin_leq, bin_gtr, bin_geq, bin_shr, bin_shl, str_add, str_eql, str_neq, un_not, extract_tup, nil_ptr, nil_fp, part_1, part_A, next_e0, next_one, get_e0, resultsOf, oneOrAll, Option.bind_some, Option.map_some, Option.map_none, Option.getD_some, decide_eq_true_eq, ↓reduceIte, Nat.reduceEqDiff, not_false_eq_true, not_true_eq_false, Nat.reduceAdd, Nat.reduceMul, reduceCtorEq, if_true, if_false, Nat.succ_ne_self, List.getElem?_cons_zero, List.getElem?_cons_succ, List.getElem?_toArray, Bool.false_eq_true, Bool.true_eq_false, List.map_cons, List.map_nil, List.append_nil, List.nil_append, List.cons_append, AH.get_alloc, AH.get_put, AH.next_alloc, AH.next_put, ite_self, true_and, and_true, Nat.reduceLeDiff, Nat.le_refl, gt_iff_lt, ge_iff_le, Bool.not_eq_true', Bool.not_eq_eq_eq_not, Bool.not_true, Bool.not_false, Bool.not_eq_false', Bool.not_not, beq_iff_eq, bne_iff_ne, ne_eq, decide_eq_false_iff_not, len_lst T57 d57, len_sl T57 d57, len_nils T57 d57, ia_lst T57 d57 T70 s70, ia_sl T57 d57 T70 s70, fa_ptr T70 p70_0 (by decide), fa_fp T70 p70_0 (by decide), load_fpA T48 a48, load_pA T48 a48, s48, loadn_def, alloc_t T48, z48, callV_fn (g := 32) (by decide), K32 h32, callV_fn (g := 33) (by decide), K33 h33, callV_fn (g := 35) (by decide), K35 h35, callV_fn (g := 38) (by decide), K38 h38, callV_fn (g := 46) (by decide), K46 h46, callV_fn (g := 48) (by decide), K48 h48, le_cast30, hb]
    exact ⟨_, rfl⟩
  · cases hg : good kd id l with
    | false =>
      have hp : putN kd id l = ([], 2) := by simp [putN, hg]
      have k38 := fun m h => K38 h38 m kd id l h h1 h2
      rw [hp] at k38
      simp +contextual (maxSteps := 3000000) only [↓code_skip, ↓code_seq, ↓code_region, ↓code_cond, ↓code_block, ↓code_scope, ↓code_label, ↓code_loop, ↓code_exit, ↓code_ret, aCond_bool, ↓ops_nil, ↓ops_cons, run_none, run_someT, run_someF, run_tup, ↓run0_v, ↓run0_h, ↓run0_r, ↓seqK_normal, ↓seqK_exit, ↓seqK_ret, ↓blkK_normal, ↓blkK_ret, ↓blkK_exit, ↓retK_normal, ↓retK_ret, put_same, put_ne, put_none, env0_at, ev_tmp, ev_const, ev_func, oc_int, oc_bool, oc_str, oc_nils, oc_nilp, oc_nilf, oc_nilm, o_move, o_assign, o_pick, o_bin, o_call, o_len, o_alloc, o_box, o_build, o_buildSlice, o_load, o_store, o_nilCheck, o_un, o_convert, o_makeFunc, o_makeSlice, o_slice, o_fieldAddr, o_field, o_indexAddr, o_index, o_extract, o_append, o_min, o_max, g_none, g_some, pick_bool, bin_add, bin_sub, bin_mul, bin_quo, bin_rem, bin_eql, bin_neq, bin_or, bin_and, bin_lss, bin_leq, bin_gtr, bin_geq, bin_shr, bin_shl, str_add, str_eql, str_neq, un_not, extract_tup, nil_ptr, nil_fp, part_1, part_A, next_e0, next_one, get_e0, resultsOf, oneOrAll, Option.bind_some, Option.map_some, Option.map_none, Option.getD_some, decide_eq_true_eq, ↓reduceIte, Nat.reduceEqDiff, not_false_eq_true, not_true_eq_false, Nat.reduceAdd, Nat.reduceMul, reduceCtorEq, if_true, if_false, Nat.succ_ne_self, List.getElem?_cons_zero, List.getElem?_cons_succ, List.getElem?_toArray, Bool.false_eq_true, Bool.true_eq_false, List.map_cons, List.map_nil, List.append_nil, List.nil_append, List.cons_append, AH.get_alloc, AH.get_put, AH.next_alloc, AH.next_put, ite_self, true_and, and_true, Nat.reduceLeDiff, Nat.le_refl, gt_iff_lt, ge_iff_le, Bool.not_eq_true', Bool.not_eq_eq_eq_not, Bool.not_true, Bool.not_false, Bool.not_eq_false', Bool.not_not, beq_iff_eq, bne_iff_ne, ne_eq, decide_eq_false_iff_not, len_lst T57 d57, len_sl T57 d57, len_nils T57 d57, ia_lst T57 d57 T70 s70, ia_sl T57 d57 T70 s70, fa_ptr T70 p70_0 (by decide), fa_fp T70 p70_0 (by decide), load_fpA T48 a48, load_pA T48 a48, s48, loadn_def, alloc_t T48, z48, callV_fn (g := 32) (by decide), K32 h32, callV_fn (g := 33) (by decide), K33 h33, callV_fn (g := 35) (by decide), K35 h35, callV_fn (g := 38) (by decide), K38 h38, callV_fn (g := 46) (by decide), K46 h46, callV_fn (g := 48) (by decide), K48 h48, le_cast30, hb, k38]
      exact ⟨_, rfl⟩
    | true =>
      have hp : putN kd id l = (pk kd id l.length l, 0) := by simp [putN, hg]
      have k38 := fun m h => K38 h38 m kd id l h h1 h2
      rw [hp] at k38
      obtain ⟨b, hbb⟩ : ∃ b, b = pk kd id l.length l := ⟨_, rfl⟩
      have hbl : b.length < 140737488355328 := by
        have hall : ∀ x ∈ l, isEnt kd x = true := by
          unfold good at hg
          simp only [Bool.and_eq_true] at hg
          exact List.all_eq_true.1 hg.2
        have := pk_len (id := id) (n := l.length) hall
        rw [hbb]; omega
      have hgt : getN b = (kd, id, l, 0) := by rw [hbb]; exact back hg
      rw [← hbb] at k38
      have k46 : ∀ m h, call F I T (m + 1) 46 [.lst false 1 b.length (ofBytes b)] h = some (tG (getN b), h) := fun m h => K46 h46 m b false h hbl
      rw [hgt] at k46
      have k48 := fun m h => K48 h48 m l h h2
      simp only [tG] at k46
      simp only at k38
      simp +contextual (maxSteps := 3000000) only [↓code_skip, ↓code_seq, ↓code_region, ↓code_cond, ↓code_block, ↓code_scope, ↓code_label, ↓code_loop, ↓code_exit, ↓code_ret, aCond_bool, ↓ops_nil, ↓ops_cons, run_none, run_someT, run_someF, run_tup, ↓run0_v, ↓run0_h, ↓run0_r, ↓seqK_normal, ↓seqK_exit, ↓seqK_ret, ↓blkK_normal, ↓blkK_ret, ↓blkK_exit, ↓retK_normal, ↓retK_ret, put_same, put_ne, put_none, env0_at, ev_tmp, ev_const, ev_func, oc_int, oc_bool, oc_str, oc_nils, oc_nilp, oc_nilf, oc_nilm, o_move, o_assign, o_pick, o_bin, o_call, o_len, o_alloc, o_box, o_build, o_buildSlice, o_load, o_store, o_nilCheck, o_un, o_convert, o_makeFunc, o_makeSlice, o_slice, o_fieldAddr, o_field, o_indexAddr, o_index, o_extract, o_append, o_min, o_max, g_none, g_some, pick_bool, bin_add, bin_sub, bin_mul, bin_quo, bin_rem, bin_eql, bin_neq, bin_or, bin_and, bin_lss, bin_leq, bin_gtr, bin_geq, bin_shr, bin_shl, str_add, str_eql, str_neq, un_not, extract_tup, nil_ptr, nil_fp, part_1, part_A, next_e0, next_one, get_e0, resultsOf, oneOrAll, Option.bind_some, Option.map_some, Option.map_none, Option.getD_some, decide_eq_true_eq, ↓reduceIte, Nat.reduceEqDiff, not_false_eq_true, not_true_eq_false, Nat.reduceAdd, Nat.reduceMul, reduceCtorEq, if_true, if_false, Nat.succ_ne_self, List.getElem?_cons_zero, List.getElem?_cons_succ, List.getElem?_toArray, Bool.false_eq_true, Bool.true_eq_false, List.map_cons, List.map_nil, List.append_nil, List.nil_append, List.cons_append, AH.get_alloc, AH.get_put, AH.next_alloc, AH.next_put, ite_self, true_and, and_true, Nat.reduceLeDiff, Nat.le_refl, gt_iff_lt, ge_iff_le, Bool.not_eq_true', Bool.not_eq_eq_eq_not, Bool.not_true, Bool.not_false, Bool.not_eq_false', Bool.not_not, beq_iff_eq, bne_iff_ne, ne_eq, decide_eq_false_iff_not, len_lst T57 d57, len_sl T57 d57, len_nils T57 d57, ia_lst T57 d57 T70 s70, ia_sl T57 d57 T70 s70, fa_ptr T70 p70_0 (by decide), fa_fp T70 p70_0 (by decide), load_fpA T48 a48, load_pA T48 a48, s48, loadn_def, alloc_t T48, z48, callV_fn (g := 32) (by decide), K32 h32, callV_fn (g := 33) (by decide), K33 h33, callV_fn (g := 35) (by decide), K35 h35, callV_fn (g := 38) (by decide), K38 h38, callV_fn (g := 46) (by decide), K46 h46, callV_fn (g := 48) (by decide), K48 h48, le_cast30, hb, k38, k46, k48, decide_true]
      refine iterL_wp (Q := fun r => ∃ h', r = some (.bool true, h')) (N := l.length) (Inv := fun k e h' => ∃ i, k + i = l.length ∧ i ≤ l.length ∧ e 2 = .lst false 7 l.length (l.flatMap Nm.cells) ∧ e 12 = .int .i64 (i : Nat)) ?_ ?_ (by omega)
      · rintro k e h' K' ⟨i, hk, hil, e2, e12⟩ hnext hexit
        by_cases hi : i < l.length
        · have c2 : (i : Int) < (l.length : Int) := by omega
          obtain ⟨x, hx⟩ : ∃ x, x = l[i] := ⟨_, rfl⟩
          obtain ⟨rest, hrest⟩ : ∃ r, r = (l.drop (i + 1)).flatMap Nm.cells := ⟨_, rfl⟩
          have c3 : (l.flatMap Nm.cells).drop (i * 7) = AV.str x.name.o :: AV.str x.name.t :: AV.str x.name.z :: AV.int .i64 x.net :: AV.int .i64 x.node :: AV.int .i64 x.sock :: AV.int .i64 x.enum :: rest := by
            rw [drop_nms hi, ← hx, ← hrest]; rfl
          have c4 := len3 x rest
          have k33 := fun m h => K33 h33 m x.name h
          obtain ⟨w, er, ht⟩ : ∃ w er, textE x.name = (w, er) := ⟨_, _, rfl⟩
          have hgd := text_good (s := w) (e := x.name)
          have ht1 : (textE x.name).1 = w := by rw [ht]
          have ht2 : (textE x.name).2 = er := by rw [ht]
          rw [ht] at hgd
          simp only at hgd
          by_cases q1 : er = 0
          · have hG := hgd.2 ⟨q1, trivial⟩
            have hwl : w.length < 140737488355328 := by
              obtain ⟨a1', a2', a3'⟩ := hG
              have := pat_len a1'
              rw [← a3']; simp [line]; omega
            have hps := parse_some hG
            have z1 := st48n h' x.name
            simp only [Ent.cells] at z1
            have z2 := neq48 x.name (h'.alloc (.cells [.str x.name.o, .str x.name.t, .str x.name.z] .own))
            have q1p : (er = 0) = True := eq_true q1
            clear q1
            simp +contextual (maxSteps := 3000000) only [↓code_skip, ↓code_seq, ↓code_region, ↓code_cond, ↓code_block, ↓code_scope, ↓code_label, ↓code_loop, ↓code_exit, ↓code_ret, aCond_bool, ↓ops_nil, ↓ops_cons, run_none, run_someT, run_someF, run_tup, ↓run0_v, ↓run0_h, ↓run0_r, ↓seqK_normal, ↓seqK_exit, ↓seqK_ret, ↓blkK_normal, ↓blkK_ret, ↓blkK_exit, ↓retK_normal, ↓retK_ret, put_same, put_ne, put_none, env0_at, ev_tmp, ev_const, ev_func, oc_int, oc_bool, oc_str, oc_nils, oc_nilp, oc_nilf, oc_nilm, o_move, o_assign, o_pick, o_bin, o_call, o_len, o_alloc, o_box, o_build, o_buildSlice, o_load, o_store, o_nilCheck, o_un, o_convert, o_makeFunc, o_makeSlice, o_slice, o_fieldAddr, o_field, o_indexAddr, o_index, o_extract, o_append, o_min, o_max, g_none, g_some, pick_bool, bin_add, bin_sub, bin_mul, bin_quo, bin_rem, bin_eql, bin_neq, bin_or, bin_and, bin_lss, bin_leq, bin_gtr, bin_geq, bin_shr, bin_shl, str_add, str_eql, str_neq, un_not, extract_tup, nil_ptr, nil_fp, part_1, part_A, next_e0, next_one, get_e0, resultsOf, oneOrAll, Option.bind_some, Option.map_some, Option.map_none, Option.getD_some, decide_eq_true_eq, ↓reduceIte, Nat.reduceEqDiff, not_false_eq_true, not_true_eq_false, Nat.reduceAdd, Nat.reduceMul, reduceCtorEq, if_true, if_false, Nat.succ_ne_self, List.getElem?_cons_zero, List.getElem?_cons_succ, List.getElem?_toArray, Bool.false_eq_true, Bool.true_eq_false, List.map_cons, List.map_nil, List.append_nil, List.nil_append, List.cons_append, AH.get_alloc, AH.get_put, AH.next_alloc, AH.next_put, ite_self, true_and, and_true, Nat.reduceLeDiff, Nat.le_refl, gt_iff_lt, ge_iff_le, Bool.not_eq_true', Bool.not_eq_eq_eq_not, Bool.not_true, Bool.not_false, Bool.not_eq_false', Bool.not_not, beq_iff_eq, bne_iff_ne, ne_eq, decide_eq_false_iff_not, len_lst T57 d57, len_sl T57 d57, len_nils T57 d57, ia_lst T57 d57 T70 s70, ia_sl T57 d57 T70 s70, fa_ptr T70 p70_0 (by decide), fa_fp T70 p70_0 (by decide), load_fpA T48 a48, load_pA T48 a48, s48, loadn_def, alloc_t T48, z48, callV_fn (g := 32) (by decide), K32 h32, callV_fn (g := 33) (by decide), K33 h33, callV_fn (g := 35) (by decide), K35 h35, callV_fn (g := 38) (by decide), K38 h38, callV_fn (g := 46) (by decide), K46 h46, callV_fn (g := 48) (by decide), K48 h48, e2, e12, c2, c3, c4, ht1, ht2, hwl, hps, tP, Ent.cells, q1p, z1, z2, run0_h, loadn_def, cast_nonneg, toNat_cast, Nat.not_lt_zero, List.length_cons, List.length_nil, List.drop_zero, List.take_succ_cons, List.take_zero, List.take_nil]
            refine hnext (k - 1) _ _ (by omega) ⟨i + 1, by omega, ?_, ?_, ?_⟩
            · omega
            · simp only [↓code_skip, ↓code_seq, ↓code_region, ↓code_cond, ↓code_block, ↓code_scope, ↓code_label, ↓code_loop, ↓code_exit, ↓code_ret, aCond_bool, ↓ops_nil, ↓ops_cons, run_none, run_someT, run_someF, run_tup, ↓run0_v, ↓run0_h, ↓run0_r, ↓seqK_normal, ↓seqK_exit, ↓seqK_ret, ↓blkK_normal, ↓blkK_ret, ↓blkK_exit, ↓retK_normal, ↓retK_ret, put_same, put_ne, put_none, env0_at, ev_tmp, ev_const, ev_func, oc_int, oc_bool, oc_str, oc_nils, oc_nilp, oc_nilf, oc_nilm, o_move, o_assign, o_pick, o_bin, o_call, o_len, o_alloc, o_box, o_build, o_buildSlice, o_load, o_store, o_nilCheck, o_un, o_convert, o_makeFunc, o_makeSlice, o_slice, o_fieldAddr, o_field, o_indexAddr, o_index, o_extract, o_append, o_min, o_max, g_none, g_some, pick_bool, bin_add, bin_sub, bin_mul, bin_quo, bin_rem, bin_eql, bin_neq, bin_or, bin_and, bin_lss, bin_leq, bin_gtr, bin_geq, bin_shr, bin_shl, str_add, str_eql, str_neq, un_not, extract_tup, nil_ptr, nil_fp, part_1, part_A, next_e0, next_one, get_e0, resultsOf, oneOrAll, Option.bind_some, Option.map_some, Option.map_none, Option.getD_some, decide_eq_true_eq, ↓reduceIte, Nat.reduceEqDiff, not_false_eq_true, not_true_eq_false, Nat.reduceAdd, Nat.reduceMul, reduceCtorEq, if_true, if_false, Nat.succ_ne_self, List.getElem?_cons_zero, List.getElem?_cons_succ, List.getElem?_toArray, Bool.false_eq_true, Bool.true_eq_false, List.map_cons, List.map_nil, List.append_nil, List.nil_append, List.cons_append, AH.get_alloc, AH.get_put, AH.next_alloc, AH.next_put, ite_self, true_and, and_true, Nat.reduceLeDiff, Nat.le_refl, gt_iff_lt, ge_iff_le, Bool.not_eq_true', Bool.not_eq_eq_eq_not, Bool.not_true, Bool.not_false, Bool.not_eq_false', Bool.not_not, beq_iff_eq, bne_iff_ne, ne_eq, decide_eq_false_iff_not, len_lst T57 d57, len_sl T57 d57, len_nils T57 d57, ia_lst T57 d57 T70 s70, ia_sl T57 d57 T70 s70, fa_ptr T70 p70_0 (by decide), fa_fp T70 p70_0 (by decide), load_fpA T48 a48, load_pA T48 a48, s48, loadn_def, alloc_t T48, z48, callV_fn (g := 32) (by decide), K32 h32, callV_fn (g := 33) (by decide), K33 h33, callV_fn (g := 35) (by decide), K35 h35, callV_fn (g := 38) (by decide), K38 h38, callV_fn (g := 46) (by decide), K46 h46, callV_fn (g := 48) (by decide), K48 h48, e2]
            · simp only [↓code_skip, ↓code_seq, ↓code_region, ↓code_cond, ↓code_block, ↓code_scope, ↓code_label, ↓code_loop, ↓code_exit, ↓code_ret, aCond_bool, ↓ops_nil, ↓ops_cons, run_none, run_someT, run_someF, run_tup, ↓run0_v, ↓run0_h, ↓run0_r, ↓seqK_normal, ↓seqK_exit, ↓seqK_ret, ↓blkK_normal, ↓blkK_ret, ↓blkK_exit, ↓retK_normal, ↓retK_ret, put_same, put_ne, put_none, env0_at, ev_tmp, ev_const, ev_func, oc_int, oc_bool, oc_str, oc_nils, oc_nilp, oc_nilf, oc_nilm, o_move, o_assign, o_pick, o_bin, o_call, o_len, o_alloc, o_box, o_build, o_buildSlice, o_load, o_store, o_nilCheck, o_un, o_convert, o_makeFunc, o_makeSlice, o_slice, o_fieldAddr, o_field, o_indexAddr, o_index, o_extract, o_append, o_min, o_max, g_none, g_some, pick_bool, bin_add, bin_sub, bin_mul, bin_quo, bin_rem, bin_eql, bin_neq, bin_or, bin_and, bin_lss, bin_leq, bin_gtr, bin_geq, bin_shr, bin_shl, str_add, str_eql, str_neq, un_not, extract_tup, nil_ptr, nil_fp, part_1, part_A, next_e0, next_one, get_e0, resultsOf, oneOrAll, Option.bind_some, Option.map_some, Option.map_none, Option.getD_some, decide_eq_true_eq, ↓reduceIte, Nat.reduceEqDiff, not_false_eq_true, not_true_eq_false, Nat.reduceAdd, Nat.reduceMul, reduceCtorEq, if_true, if_false, Nat.succ_ne_self, List.getElem?_cons_zero, List.getElem?_cons_succ, List.getElem?_toArray, Bool.false_eq_true, Bool.true_eq_false, List.map_cons, List.map_nil, List.append_nil, List.nil_append, List.cons_append, AH.get_alloc, AH.get_put, AH.next_alloc, AH.next_put, ite_self, true_and, and_true, Nat.reduceLeDiff, Nat.le_refl, gt_iff_lt, ge_iff_le, Bool.not_eq_true', Bool.not_eq_eq_eq_not, Bool.not_true, Bool.not_false, Bool.not_eq_false', Bool.not_not, beq_iff_eq, bne_iff_ne, ne_eq, decide_eq_false_iff_not, len_lst T57 d57, len_sl T57 d57, len_nils T57 d57, ia_lst T57 d57 T70 s70, ia_sl T57 d57 T70 s70, fa_ptr T70 p70_0 (by decide), fa_fp T70 p70_0 (by decide), load_fpA T48 a48, load_pA T48 a48, s48, loadn_def, alloc_t T48, z48, callV_fn (g := 32) (by decide), K32 h32, callV_fn (g := 33) (by decide), K33 h33, callV_fn (g := 35) (by decide), K35 h35, callV_fn (g := 38) (by decide), K38 h38, callV_fn (g := 46) (by decide), K46 h46, callV_fn (g := 48) (by decide), K48 h48, e12]; rw [wrap_i64 (by omega) (by omega)]; rfl
          · simp +contextual (maxSteps := 3000000) only [↓code_skip, ↓code_seq, ↓code_region, ↓code_cond, ↓code_block, ↓code_scope, ↓code_label, ↓code_loop, ↓code_exit, ↓code_ret, aCond_bool, ↓ops_nil, ↓ops_cons, run_none, run_someT, run_someF, run_tup, ↓run0_v, ↓run0_h, ↓run0_r, ↓seqK_normal, ↓seqK_exit, ↓seqK_ret, ↓blkK_normal, ↓blkK_ret, ↓blkK_exit, ↓retK_normal, ↓retK_ret, put_same, put_ne, put_none, env0_at, ev_tmp, ev_const, ev_func, oc_int, oc_bool, oc_str, oc_nils, oc_nilp, oc_nilf, oc_nilm, o_move, o_assign, o_pick, o_bin, o_call, o_len, o_alloc, o_box, o_build, o_buildSlice, o_load, o_store, o_nilCheck, o_un, o_convert, o_makeFunc, o_makeSlice, o_slice, o_fieldAddr, o_field, o_indexAddr, o_index, o_extract, o_append, o_min, o_max, g_none, g_some, pick_bool, bin_add, bin_sub, bin_mul, bin_quo, bin_rem, bin_eql, bin_neq, bin_or, bin_and, bin_lss, bin_leq, bin_gtr, bin_geq, bin_shr, bin_shl, str_add, str_eql, str_neq, un_not, extract_tup, nil_ptr, nil_fp, part_1, part_A, next_e0, next_one, get_e0, resultsOf, oneOrAll, Option.bind_some, Option.map_some, Option.map_none, Option.getD_some, decide_eq_true_eq, ↓reduceIte, Nat.reduceEqDiff, not_false_eq_true, not_true_eq_false, Nat.reduceAdd, Nat.reduceMul, reduceCtorEq, if_true, if_false, Nat.succ_ne_self, List.getElem?_cons_zero, List.getElem?_cons_succ, List.getElem?_toArray, Bool.false_eq_true, Bool.true_eq_false, List.map_cons, List.map_nil, List.append_nil, List.nil_append, List.cons_append, AH.get_alloc, AH.get_put, AH.next_alloc, AH.next_put, ite_self, true_and, and_true, Nat.reduceLeDiff, Nat.le_refl, gt_iff_lt, ge_iff_le, Bool.not_eq_true', Bool.not_eq_eq_eq_not, Bool.not_true, Bool.not_false, Bool.not_eq_false', Bool.not_not, beq_iff_eq, bne_iff_ne, ne_eq, decide_eq_false_iff_not, len_lst T57 d57, len_sl T57 d57, len_nils T57 d57, ia_lst T57 d57 T70 s70, ia_sl T57 d57 T70 s70, fa_ptr T70 p70_0 (by decide), fa_fp T70 p70_0 (by decide), load_fpA T48 a48, load_pA T48 a48, s48, loadn_def, alloc_t T48, z48, callV_fn (g := 32) (by decide), K32 h32, callV_fn (g := 33) (by decide), K33 h33, callV_fn (g := 35) (by decide), K35 h35, callV_fn (g := 38) (by decide), K38 h38, callV_fn (g := 46) (by decide), K46 h46, callV_fn (g := 48) (by decide), K48 h48, e2, e12, c2, c3, c4, ht1, ht2, q1, run0_h, loadn_def, cast_nonneg, toNat_cast, Nat.not_lt_zero, List.drop_zero, List.take_succ_cons, List.take_zero, List.take_nil]
            refine hnext (k - 1) _ _ (by omega) ⟨i + 1, by omega, ?_, ?_, ?_⟩
            · omega
            · simp only [↓code_skip, ↓code_seq, ↓code_region, ↓code_cond, ↓code_block, ↓code_scope, ↓code_label, ↓code_loop, ↓code_exit, ↓code_ret, aCond_bool, ↓ops_nil, ↓ops_cons, run_none, run_someT, run_someF, run_tup, ↓run0_v, ↓run0_h, ↓run0_r, ↓seqK_normal, ↓seqK_exit, ↓seqK_ret, ↓blkK_normal, ↓blkK_ret, ↓blkK_exit, ↓retK_normal, ↓retK_ret, put_same, put_ne, put_none, env0_at, ev_tmp, ev_const, ev_func, oc_int, oc_bool, oc_str, oc_nils, oc_nilp, oc_nilf, oc_nilm, o_move, o_assign, o_pick, o_bin, o_call, o_len, o_alloc, o_box, o_build, o_buildSlice, o_load, o_store, o_nilCheck, o_un, o_convert, o_makeFunc, o_makeSlice, o_slice, o_fieldAddr, o_field, o_indexAddr, o_index, o_extract, o_append, o_min, o_max, g_none, g_some, pick_bool, bin_add, bin_sub, bin_mul, bin_quo, bin_rem, bin_eql, bin_neq, bin_or, bin_and, bin_lss, bin_leq, bin_gtr, bin_geq, bin_shr, bin_shl, str_add, str_eql, str_neq, un_not, extract_tup, nil_ptr, nil_fp, part_1, part_A, next_e0, next_one, get_e0, resultsOf, oneOrAll, Option.bind_some, Option.map_some, Option.map_none, Option.getD_some, decide_eq_true_eq, ↓reduceIte, Nat.reduceEqDiff, not_false_eq_true, not_true_eq_false, Nat.reduceAdd, Nat.reduceMul, reduceCtorEq, if_true, if_false, Nat.succ_ne_self, List.getElem?_cons_zero, List.getElem?_cons_succ, List.getElem?_toArray, Bool.false_eq_true, Bool.true_eq_false, List.map_cons, List.map_nil, List.append_nil, List.nil_append, List.cons_append, AH.get_alloc, AH.get_put, AH.next_alloc, AH.next_put, ite_self, true_and, and_true, Nat.reduceLeDiff, Nat.le_refl, gt_iff_lt, ge_iff_le, Bool.not_eq_true', Bool.not_eq_eq_eq_not, Bool.not_true, Bool.not_false, Bool.not_eq_false', Bool.not_not, beq_iff_eq, bne_iff_ne, ne_eq, decide_eq_false_iff_not, len_lst T57 d57, len_sl T57 d57, len_nils T57 d57, ia_lst T57 d57 T70 s70, ia_sl T57 d57 T70 s70, fa_ptr T70 p70_0 (by decide), fa_fp T70 p70_0 (by decide), load_fpA T48 a48, load_pA T48 a48, s48, loadn_def, alloc_t T48, z48, callV_fn (g := 32) (by decide), K32 h32, callV_fn (g := 33) (by decide), K33 h33, callV_fn (g := 35) (by decide), K35 h35, callV_fn (g := 38) (by decide), K38 h38, callV_fn (g := 46) (by decide), K46 h46, callV_fn (g := 48) (by decide), K48 h48, e2]
            · simp only [↓code_skip, ↓code_seq, ↓code_region, ↓code_cond, ↓code_block, ↓code_scope, ↓code_label, ↓code_loop, ↓code_exit, ↓code_ret, aCond_bool, ↓ops_nil, ↓ops_cons, run_none, run_someT, run_someF, run_tup, ↓run0_v, ↓run0_h, ↓run0_r, ↓seqK_normal, ↓seqK_exit, ↓seqK_ret, ↓blkK_normal, ↓blkK_ret, ↓blkK_exit, ↓retK_normal, ↓retK_ret, put_same, put_ne, put_none, env0_at, ev_tmp, ev_const, ev_func, oc_int, oc_bool, oc_str, oc_nils, oc_nilp, oc_nilf, oc_nilm, o_move, o_assign, o_pick, o_bin, o_call, o_len, o_alloc, o_box, o_build, o_buildSlice, o_load, o_store, o_nilCheck, o_un, o_convert, o_makeFunc, o_makeSlice, o_slice, o_fieldAddr, o_field, o_indexAddr, o_index, o_extract, o_append, o_min, o_max, g_none, g_some, pick_bool, bin_add, bin_sub, bin_mul, bin_quo, bin_rem, bin_eql, bin_neq, bin_or, bin_and, bin_lss, bin_leq, bin_gtr, bin_geq, bin_shr, bin_shl, str_add, str_eql, str_neq, un_not, extract_tup, nil_ptr, nil_fp, part_1, part_A, next_e0, next_one, get_e0, resultsOf, oneOrAll, Option.bind_some, Option.map_some, Option.map_none, Option.getD_some, decide_eq_true_eq, ↓reduceIte, Nat.reduceEqDiff, not_false_eq_true, not_true_eq_false, Nat.reduceAdd, Nat.reduceMul, reduceCtorEq, if_true, if_false, Nat.succ_ne_self, List.getElem?_cons_zero, List.getElem?_cons_succ, List.getElem?_toArray, Bool.false_eq_true, Bool.true_eq_false, List.map_cons, List.map_nil, List.append_nil, List.nil_append, List.cons_append, AH.get_alloc, AH.get_put, AH.next_alloc, AH.next_put, ite_self, true_and, and_true, Nat.reduceLeDiff, Nat.le_refl, gt_iff_lt, ge_iff_le, Bool.not_eq_true', Bool.not_eq_eq_eq_not, Bool.not_true, Bool.not_false, Bool.not_eq_false', Bool.not_not, beq_iff_eq, bne_iff_ne, ne_eq, decide_eq_false_iff_not, len_lst T57 d57, len_sl T57 d57, len_nils T57 d57, ia_lst T57 d57 T70 s70, ia_sl T57 d57 T70 s70, fa_ptr T70 p70_0 (by decide), fa_fp T70 p70_0 (by decide), load_fpA T48 a48, load_pA T48 a48, s48, loadn_def, alloc_t T48, z48, callV_fn (g := 32) (by decide), K32 h32, callV_fn (g := 33) (by decide), K33 h33, callV_fn (g := 35) (by decide), K35 h35, callV_fn (g := 38) (by decide), K38 h38, callV_fn (g := 46) (by decide), K46 h46, callV_fn (g := 48) (by decide), K48 h48, e12]; rw [wrap_i64 (by omega) (by omega)]; rfl
        · have c2 : ¬ (i : Int) < (l.length : Int) := by omega
          simp +contextual (maxSteps := 3000000) only [↓code_skip, ↓code_seq, ↓code_region, ↓code_cond, ↓code_block, ↓code_scope, ↓code_label, ↓code_loop, ↓code_exit, ↓code_ret, aCond_bool, ↓ops_nil, ↓ops_cons, run_none, run_someT, run_someF, run_tup, ↓run0_v, ↓run0_h, ↓run0_r, ↓seqK_normal, ↓seqK_exit, ↓seqK_ret, ↓blkK_normal, ↓blkK_ret, ↓blkK_exit, ↓retK_normal, ↓retK_ret, put_same, put_ne, put_none, env0_at, ev_tmp, ev_const, ev_func, oc_int, oc_bool, oc_str, oc_nils, oc_nilp, oc_nilf, oc_nilm, o_move, o_assign, o_pick, o_bin, o_call, o_len, o_alloc, o_box, o_build, o_buildSlice, o_load, o_store, o_nilCheck, o_un, o_convert, o_makeFunc, o_makeSlice, o_slice, o_fieldAddr, o_field, o_indexAddr, o_index, o_extract, o_append, o_min, o_max, g_none, g_some, pick_bool, bin_add, bin_sub, bin_mul, bin_quo, bin_rem, bin_eql, bin_neq, bin_or, bin_and, bin_lss, bin_leq, bin_gtr, bin_geq, bin_shr, bin_shl, str_add, str_eql, str_neq, un_not, extract_tup, nil_ptr, nil_fp, part_1, part_A, next_e0, next_one, get_e0, resultsOf, oneOrAll, Option.bind_some, Option.map_some, Option.map_none, Option.getD_some, decide_eq_true_eq, ↓reduceIte, Nat.reduceEqDiff, not_false_eq_true, not_true_eq_false, Nat.reduceAdd, Nat.reduceMul, reduceCtorEq, if_true, if_false, Nat.succ_ne_self, List.getElem?_cons_zero, List.getElem?_cons_succ, List.getElem?_toArray, Bool.false_eq_true, Bool.true_eq_false, List.map_cons, List.map_nil, List.append_nil, List.nil_append, List.cons_append, AH.get_alloc, AH.get_put, AH.next_alloc, AH.next_put, ite_self, true_and, and_true, Nat.reduceLeDiff, Nat.le_refl, gt_iff_lt, ge_iff_le, Bool.not_eq_true', Bool.not_eq_eq_eq_not, Bool.not_true, Bool.not_false, Bool.not_eq_false', Bool.not_not, beq_iff_eq, bne_iff_ne, ne_eq, decide_eq_false_iff_not, len_lst T57 d57, len_sl T57 d57, len_nils T57 d57, ia_lst T57 d57 T70 s70, ia_sl T57 d57 T70 s70, fa_ptr T70 p70_0 (by decide), fa_fp T70 p70_0 (by decide), load_fpA T48 a48, load_pA T48 a48, s48, loadn_def, alloc_t T48, z48, callV_fn (g := 32) (by decide), K32 h32, callV_fn (g := 33) (by decide), K33 h33, callV_fn (g := 35) (by decide), K35 h35, callV_fn (g := 38) (by decide), K38 h38, callV_fn (g := 46) (by decide), K46 h46, callV_fn (g := 48) (by decide), K48 h48, e2, e12, c2]
          refine hexit _ _ _ (by simp) ⟨h', ?_⟩
          simp +contextual (maxSteps := 3000000) only [↓code_skip, ↓code_seq, ↓code_region, ↓code_cond, ↓code_block, ↓code_scope, ↓code_label, ↓code_loop, ↓code_exit, ↓code_ret, aCond_bool, ↓ops_nil, ↓ops_cons, run_none, run_someT, run_someF, run_tup, ↓run0_v, ↓run0_h, ↓run0_r, ↓seqK_normal, ↓seqK_exit, ↓seqK_ret, ↓blkK_normal, ↓blkK_ret, ↓blkK_exit, ↓retK_normal, ↓retK_ret, put_same, put_ne, put_none, env0_at, ev_tmp, ev_const, ev_func, oc_int, oc_bool, oc_str, oc_nils, oc_nilp, oc_nilf, oc_nilm, o_move, o_assign, o_pick, o_bin, o_call, o_len, o_alloc, o_box, o_build, o_buildSlice, o_load, o_store, o_nilCheck, o_un, o_convert, o_makeFunc, o_makeSlice, o_slice, o_fieldAddr, o_field, o_indexAddr, o_index, o_extract, o_append, o_min, o_max, g_none, g_some, pick_bool, bin_add, bin_sub, bin_mul, bin_quo, bin_rem, bin_eql, bin_neq, bin_or, bin_and, bin_lss, bin_leq, bin_gtr, bin_geq, bin_shr, bin_shl, str_add, str_eql, str_neq, un_not, extract_tup, nil_ptr, nil_fp, part_1, part_A, next_e0, next_one, get_e0, resultsOf, oneOrAll, Option.bind_some, Option.map_some, Option.map_none, Option.getD_some, decide_eq_true_eq, ↓reduceIte, Nat.reduceEqDiff, not_false_eq_true, not_true_eq_false, Nat.reduceAdd, Nat.reduceMul, reduceCtorEq, if_true, if_false, Nat.succ_ne_self, List.getElem?_cons_zero, List.getElem?_cons_succ, List.getElem?_toArray, Bool.false_eq_true, Bool.true_eq_false, List.map_cons, List.map_nil, List.append_nil, List.nil_append, List.cons_append, AH.get_alloc, AH.get_put, AH.next_alloc, AH.next_put, ite_self, true_and, and_true, Nat.reduceLeDiff, Nat.le_refl, gt_iff_lt, ge_iff_le, Bool.not_eq_true', Bool.not_eq_eq_eq_not, Bool.not_true, Bool.not_false, Bool.not_eq_false', Bool.not_not, beq_iff_eq, bne_iff_ne, ne_eq, decide_eq_false_iff_not, len_lst T57 d57, len_sl T57 d57, len_nils T57 d57, ia_lst T57 d57 T70 s70, ia_sl T57 d57 T70 s70, fa_ptr T70 p70_0 (by decide), fa_fp T70 p70_0 (by decide), load_fpA T48 a48, load_pA T48 a48, s48, loadn_def, alloc_t T48, z48, callV_fn (g := 32) (by decide), K32 h32, callV_fn (g := 33) (by decide), K33 h33, callV_fn (g := 35) (by decide), K35 h35, callV_fn (g := 38) (by decide), K38 h38, callV_fn (g := 46) (by decide), K46 h46, callV_fn (g := 48) (by decide), K48 h48]
      · refine ⟨0, by omega, ?_, ?_, ?_⟩
        · omega
        · simp only [↓code_skip, ↓code_seq, ↓code_region, ↓code_cond, ↓code_block, ↓code_scope, ↓code_label, ↓code_loop, ↓code_exit, ↓code_ret, aCond_bool, ↓ops_nil, ↓ops_cons, run_none, run_someT, run_someF, run_tup, ↓run0_v, ↓run0_h, ↓run0_r, ↓seqK_normal, ↓seqK_exit, ↓seqK_ret, ↓blkK_normal, ↓blkK_ret, ↓blkK_exit, ↓retK_normal, ↓retK_ret, put_same, put_ne, put_none, env0_at, ev_tmp, ev_const, ev_func, oc_int, oc_bool, oc_str, oc_nils, oc_nilp, oc_nilf, oc_nilm, o_move, o_assign, o_pick, o_bin, o_call, o_len, o_alloc, o_box, o_build, o_buildSlice, o_load, o_store, o_nilCheck, o_un, o_convert, o_makeFunc, o_makeSlice, o_slice, o_fieldAddr, o_field, o_indexAddr, o_index, o_extract, o_append, o_min, o_max, g_none, g_some, pick_bool, bin_add, bin_sub, bin_mul, bin_quo, bin_rem, bin_eql, bin_neq, bin_or, bin_and, bin_lss, bin_leq, bin_gtr, bin_geq, bin_shr, bin_shl, str_add, str_eql, str_neq, un_not, extract_tup, nil_ptr, nil_fp, part_1, part_A, next_e0, next_one, get_e0, resultsOf, oneOrAll, Option.bind_some, Option.map_some, Option.map_none, Option.getD_some, decide_eq_true_eq, ↓reduceIte, Nat.reduceEqDiff, not_false_eq_true, not_true_eq_false, Nat.reduceAdd, Nat.reduceMul, reduceCtorEq, if_true, if_false, Nat.succ_ne_self, List.getElem?_cons_zero, List.getElem?_cons_succ, List.getElem?_toArray, Bool.false_eq_true, Bool.true_eq_false, List.map_cons, List.map_nil, List.append_nil, List.nil_append, List.cons_append, AH.get_alloc, AH.get_put, AH.next_alloc, AH.next_put, ite_self, true_and, and_true, Nat.reduceLeDiff, Nat.le_refl, gt_iff_lt, ge_iff_le, Bool.not_eq_true', Bool.not_eq_eq_eq_not, Bool.not_true, Bool.not_false, Bool.not_eq_false', Bool.not_not, beq_iff_eq, bne_iff_ne, ne_eq, decide_eq_false_iff_not, len_lst T57 d57, len_sl T57 d57, len_nils T57 d57, ia_lst T57 d57 T70 s70, ia_sl T57 d57 T70 s70, fa_ptr T70 p70_0 (by decide), fa_fp T70 p70_0 (by decide), load_fpA T48 a48, load_pA T48 a48, s48, loadn_def, alloc_t T48, z48, callV_fn (g := 32) (by decide), K32 h32, callV_fn (g := 33) (by decide), K33 h33, callV_fn (g := 35) (by decide), K35 h35, callV_fn (g := 38) (by decide), K38 h38, callV_fn (g := 46) (by decide), K46 h46, callV_fn (g := 48) (by decide), K48 h48]
        · simp only [↓code_skip, ↓code_seq, ↓code_region, ↓code_cond, ↓code_block, ↓code_scope, ↓code_label, ↓code_loop, ↓code_exit, ↓code_ret, aCond_bool, ↓ops_nil, ↓ops_cons, run_none, run_someT, run_someF, run_tup, ↓run0_v, ↓run0_h, ↓run0_r, ↓seqK_normal, ↓seqK_exit, ↓seqK_ret, ↓blkK_normal, ↓blkK_ret, ↓blkK_exit, ↓retK_normal, ↓retK_ret, put_same, put_ne, put_none, env0_at, ev_tmp, ev_const, ev_func, oc_int, oc_bool, oc_str, oc_nils, oc_nilp, oc_nilf, oc_nilm, o_move, o_assign, o_pick, o_bin, o_call, o_len, o_alloc, o_box, o_build, o_buildSlice, o_load, o_store, o_nilCheck, o_un, o_convert, o_makeFunc, o_makeSlice, o_slice, o_fieldAddr, o_field, o_indexAddr, o_index, o_extract, o_append, o_min, o_max, g_none, g_some, pick_bool, bin_add, bin_sub, bin_mul, bin_quo, bin_rem, bin_eql, bin_neq, bin_or, bin_and, bin_lss, bin_leq, bin_gtr, bin_geq, bin_shr, bin_shl, str_add, str_eql, str_neq, un_not, extract_tup, nil_ptr, nil_fp, part_1, part_A, next_e0, next_one, get_e0, resultsOf, oneOrAll, Option.bind_some, Option.map_some, Option.map_none, Option.getD_some, decide_eq_true_eq, ↓reduceIte, Nat.reduceEqDiff, not_false_eq_true, not_true_eq_false, Nat.reduceAdd, Nat.reduceMul, reduceCtorEq, if_true, if_false, Nat.succ_ne_self, List.getElem?_cons_zero, List.getElem?_cons_succ, List.getElem?_toArray, Bool.false_eq_true, Bool.true_eq_false, List.map_cons, List.map_nil, List.append_nil, List.nil_append, List.cons_append, AH.get_alloc, AH.get_put, AH.next_alloc, AH.next_put, ite_self, true_and, and_true, Nat.reduceLeDiff, Nat.le_refl, gt_iff_lt, ge_iff_le, Bool.not_eq_true', Bool.not_eq_eq_eq_not, Bool.not_true, Bool.not_false, Bool.not_eq_false', Bool.not_not, beq_iff_eq, bne_iff_ne, ne_eq, decide_eq_false_iff_not, len_lst T57 d57, len_sl T57 d57, len_nils T57 d57, ia_lst T57 d57 T70 s70, ia_sl T57 d57 T70 s70, fa_ptr T70 p70_0 (by decide), fa_fp T70 p70_0 (by decide), load_fpA T48 a48, load_pA T48 a48, s48, loadn_def, alloc_t T48, z48, callV_fn (g := 32) (by decide), K32 h32, callV_fn (g := 33) (by decide), K33 h33, callV_fn (g := 35) (by decide), K35 h35, callV_fn (g := 38) (by decide), K38 h38, callV_fn (g := 46) (by decide), K46 h46, callV_fn (g := 48) (by decide), K48 h48]; rfl
theorem law11 (kd id : Int) (l : List Nm) (h1 : okNms l) (h2 : l.length < 140737488355328) : ∃ h', call F Bk7 T 60 11 [.int .i64 kd, .int .i64 id, .lst false 7 l.length (l.flatMap Nm.cells)] e0 = some (.bool true, h') :=
  run11 rfl rfl rfl rfl rfl rfl rfl kd id l 0 h1 h2
end Go.AM.X.P
