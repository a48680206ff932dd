/- Entries, read: the reference. Own work. -/
import Derived.Test.YtdehanhonfbdpaaNgtG
namespace Go.AM.X.P
open Go Go.AM Go.Proofs Go.AM.Sx Go.AM.X
set_option maxHeartbeats 3200000
set_option maxRecDepth 100000
set_option linter.unusedVariables false
def zN : Nm := ⟨⟨[], [], []⟩, 0, 0, 0, 0⟩
noncomputable def entR (k : Int) (b : List UInt8) (p : Int) : Nm × Int × Int := if (entS k b p 0).2.2 = 0 then ((entS k b p 0).1, (entS k b p 0).2.1, 0) else (zN, 0, (entS k b p 0).2.2)
def tE (x : Nm × Int × Int) : AV := .tup [.agg x.1.cells, .int .i64 x.2.1, .int .i64 x.2.2]
theorem nu_eq {n lo hi : Int} {b : List UInt8} {p v q e : Int} (h : getS b p n = (v, q, e)) : nuS n lo hi b p 0 = (v, q, mustS (within v lo hi) e) := by simp [nuS, h]
theorem tx_eq {w : Bool} {b : List UInt8} {p q e : Int} {s : List UInt8} (h : textS b p = (s, q, e)) : txS w b p 0 = (s, q, mustS (okTx w s) e) := by simp [txS, h]
theorem mustS_t {c : Bool} {e : Int} (h : c = true) : mustS c e = e := by simp [mustS, h]
theorem mustS_3 {c : Bool} (h : c = false) : mustS c 0 = 3 := by simp [mustS, h]
theorem within_t {v lo hi : Int} (h : lo ≤ v ∧ v ≤ hi) : within v lo hi = true := within_iff.2 h
theorem within_f {v lo hi : Int} (h : v < lo ∨ hi < v) : within v lo hi = false := by
  cases hc : within v lo hi with
  | false => rfl
  | true => have := within_iff.1 hc; omega
theorem getS_nn {b : List UInt8} {p n : Int} : 0 ≤ (getS b p n).1 := by
  unfold getS; split
  · split
    · simp
    · simp only; omega
  · simp
theorem getS_255 {b : List UInt8} {p : Int} : (getS b p 1).1 ≤ 255 := by
  unfold getS; split
  · split
    · simp
    · simp only
      have h1 := beN_lt ((b.drop p.toNat).take (Int.toNat 1))
      have h2 : 256 ^ ((b.drop p.toNat).take (Int.toNat 1)).length ≤ 256 ^ 1 := Nat.pow_le_pow_right (by decide) (by rw [List.length_take]; exact Nat.min_le_left _ _)
      omega
  · simp
theorem textS_31 {b : List UInt8} {p q : Int} {s : List UInt8} (h : textS b p = (s, q, 0)) : s.length ≤ 31 := by
  unfold textS at h
  split at h
  · split at h
    · cases h
    · split at h
      · cases h
      · split at h
        · cases h
        · cases h
          simp only [List.length_take]; omega
  · cases h
theorem okTx_t {w : Bool} {s : List UInt8} (h : 1 ≤ s.length ∧ s.length ≤ 31) (hw : w = true ∨ wild s = false) : okTx w s = true := by
  have : isPart s = true := by simpa [isPart] using h
  rcases hw with rfl | hw
  · simp [okTx, this]
  · simp [okTx, this, hw]
theorem okTx_0 {w : Bool} {s : List UInt8} (h : (s.length : Int) = 0) : okTx w s = false := by
  have h2 : s.length = 0 := by omega
  simp [okTx, isPart, h2]
theorem okTx_w {s : List UInt8} (h : wild s = true) : okTx false s = false := by simp [okTx, h]
theorem entR_e {k : Int} {b : List UInt8} {p c : Int} (hc : ¬ c = 0) (h : (entS k b p 0).2.2 = c) : entR k b p = (zN, 0, c) := by
  unfold entR; rw [h, if_neg hc]
def loJ (j : Nat) : Int := if j = 1 then 1 else 0
def hiJ (j : Nat) : Int := if j = 1 then 254 else 255
def wJ (k : Int) (j : Nat) : Bool := if j < 2 then !decide (k = 3) else true
def stN (b : List UInt8) (p e : Int) : Nat → Int × Int
  | 0 => (p, e)
  | j + 1 => (nuS 1 (loJ j) (hiJ j) b (stN b p e j).1 (stN b p e j).2).2
def vN (b : List UInt8) (p e : Int) (j : Nat) : Int := (nuS 1 (loJ j) (hiJ j) b (stN b p e j).1 (stN b p e j).2).1
noncomputable def stT (k : Int) (b : List UInt8) (p e : Int) : Nat → Int × Int
  | 0 => (p, e)
  | j + 1 => (txS (wJ k j) b (stT k b p e j).1 (stT k b p e j).2).2
noncomputable def vT (k : Int) (b : List UInt8) (p e : Int) (j : Nat) : List UInt8 := (txS (wJ k j) b (stT k b p e j).1 (stT k b p e j).2).1
theorem entS_eq (k : Int) (b : List UInt8) (p e : Int) :
    let a := nuS 2 0 65279 b p e
    let n := stN b a.2.1 a.2.2 3
    entS k b p e = (⟨⟨vT k b n.1 n.2 0, vT k b n.1 n.2 1, vT k b n.1 n.2 2⟩, a.1, vN b a.2.1 a.2.2 0, vN b a.2.1 a.2.2 1, vN b a.2.1 a.2.2 2⟩, (stT k b n.1 n.2 3).1, (stT k b n.1 n.2 3).2) := rfl
theorem stN_s {b : List UInt8} {p e c : Int} {j : Nat} (hc : ¬ c = 0) (h : (stN b p e j).2 = c) : (stN b p e (j + 1)).2 = c := by
  rw [stN, h, nuS_e hc]
theorem stT_s {k : Int} {b : List UInt8} {p e c : Int} {j : Nat} (hc : ¬ c = 0) (h : (stT k b p e j).2 = c) : (stT k b p e (j + 1)).2 = c := by
  rw [stT, h, txS_e hc]
theorem stN_3 {b : List UInt8} {p e c : Int} {j : Nat} (hj : j < 3) (hc : ¬ c = 0) (h : (stN b p e (j + 1)).2 = c) : (stN b p e 3).2 = c := by
  match j, hj with
  | 0, _ => exact stN_s hc (stN_s hc h)
  | 1, _ => exact stN_s hc h
  | 2, _ => exact h
theorem stT_3 {k : Int} {b : List UInt8} {p e c : Int} {j : Nat} (hj : j < 3) (hc : ¬ c = 0) (h : (stT k b p e (j + 1)).2 = c) : (stT k b p e 3).2 = c := by
  match j, hj with
  | 0, _ => exact stT_s hc (stT_s hc h)
  | 1, _ => exact stT_s hc h
  | 2, _ => exact h
theorem ent_N {k : Int} {b : List UInt8} {p p1 v1 c e1 : Int} (hc : ¬ c = 0) (h1 : nuS 2 0 65279 b p 0 = (v1, p1, e1)) (h : (stN b p1 e1 3).2 = c) : (entS k b p 0).2.2 = c := by
  rw [entS_eq, h1]
  show (stT k b (stN b p1 e1 3).1 (stN b p1 e1 3).2 3).2 = c
  rw [h]
  exact stT_3 (j := 0) (by decide) hc (stT_s hc rfl)
theorem ent_1 {k : Int} {b : List UInt8} {p p1 v1 e1 : Int} (hc : ¬ e1 = 0) (h1 : nuS 2 0 65279 b p 0 = (v1, p1, e1)) : (entS k b p 0).2.2 = e1 :=
  ent_N hc h1 (stN_3 (j := 0) (by decide) hc (stN_s hc rfl))
def arN (b : List UInt8) (p : Int) (j : Nat) : List AV := [.int .i64 (if 0 < j then vN b p 0 0 else 0), .int .i64 (if 1 < j then vN b p 0 1 else 0), .int .i64 (if 2 < j then vN b p 0 2 else 0)]
noncomputable def arT (k : Int) (b : List UInt8) (p : Int) (j : Nat) : List AV := [.str (if 0 < j then vT k b p 0 0 else []), .str (if 1 < j then vT k b p 0 1 else []), .str (if 2 < j then vT k b p 0 2 else [])]
theorem arN_set (b : List UInt8) (p : Int) {j : Nat} (hj : j < 3) : (arN b p j).set j (.int .i64 (vN b p 0 j)) = arN b p (j + 1) := by
  match j, hj with
  | 0, _ => rfl
  | 1, _ => rfl
  | 2, _ => rfl
theorem arT_set (k : Int) (b : List UInt8) (p : Int) {j : Nat} (hj : j < 3) : (arT k b p j).set j (.str (vT k b p 0 j)) = arT k b p (j + 1) := by
  match j, hj with
  | 0, _ => rfl
  | 1, _ => rfl
  | 2, _ => rfl
theorem z70_st {H : AH} {X : List AV} (hg : H.get 0 = some (.cells X .own)) (hx : X.length = 7) (x : Nm) : aStore T 70 (.ptr 0 0) (.agg [.str x.name.o, .str x.name.t, .str x.name.z, .int .i64 x.net, .int .i64 x.node, .int .i64 x.sock, .int .i64 x.enum]) H = some (H.put 0 (.cells x.cells .own)) := by
  rw [store_n (cs := X) (vs := x.cells) T70 rfl (by rw [s70]; rfl) rfl hg (by simp [Nm.cells, hx])]
  congr 3
  simp only [AH.splice, List.take_zero, List.nil_append]
  rw [List.drop_eq_nil_of_le (by rw [hx]; simp [Nm.cells]), List.append_nil]
theorem not3 : ¬ (3 : Int) = 0 := by decide
theorem ld70 (H : AH) (x : Nm) : aLoad T 70 (.ptr 0 0) (H.put 0 (.cells x.cells .own)) = some (.agg x.cells) := by
  rw [load_pA T70 a70, loadn_def, AH.get_put, if_pos rfl, s70]; rfl
theorem ent_ok {k : Int} {b : List UInt8} {p p1 v1 pn q : Int} (h1 : nuS 2 0 65279 b p 0 = (v1, p1, 0)) (h2 : stN b p1 0 3 = (pn, 0)) (h3 : stT k b pn 0 3 = (q, 0)) :
    entR k b p = (⟨⟨vT k b pn 0 0, vT k b pn 0 1, vT k b pn 0 2⟩, v1, vN b p1 0 0, vN b p1 0 1, vN b p1 0 2⟩, q, 0) := by
  have h := entS_eq k b p 0
  simp only [h1, h2, h3] at h
  unfold entR
  rw [h]
  rfl
theorem ent_T {k : Int} {b : List UInt8} {p p1 v1 pn c : Int} (h1 : nuS 2 0 65279 b p 0 = (v1, p1, 0)) (h2 : stN b p1 0 3 = (pn, 0)) (h3 : (stT k b pn 0 3).2 = c) : (entS k b p 0).2.2 = c := by
  have h := entS_eq k b p 0
  simp only [h1, h2] at h
  rw [h]; exact h3
theorem zst : aStore T 70 (.ptr 0 0) (.agg [.str [], .str [], .str [], .int .i64 0, .int .i64 0, .int .i64 0, .int .i64 0]) (e0.alloc (.cells [.str [], .str [], .str [], .int .i64 0, .int .i64 0, .int .i64 0, .int .i64 0] .own)) = some ((e0.alloc (.cells zN.cells .own))) :=
  st70 e0 zN
theorem run94 {I : Nat → Option (List AV → AH → Rs)} (h112 : I 112 = some (pureG g112)) (h88 : I 88 = none) (h103 : I 103 = some (pureG g103)) (h114 : I 114 = none) (h94 : I 94 = none) (kd : Int) (b : List UInt8) (p : Int) (m : Nat) (hl : b.length < 140737488355328) (hp : 0 ≤ p ∧ p ≤ b.length) :
    ∃ h', call F I T (m + 60) 94 [.lst false 1 b.length (b.map vByte.enc), .int .i64 p, .int .i64 kd] e0 = some (tE (entR kd b p), h') := by
  obtain ⟨v1, p1, e1, g1⟩ : ∃ x y z, getS b p 2 = (x, y, z) := ⟨_, _, _, rfl⟩
  have k1 := fun m h => K103 h103 m b false p 2 h hl hp
  rw [g1] at k1
  have n1 := nu_eq (lo := 0) (hi := 65279) g1
  have l1 : 0 ≤ v1 := by have := getS_nn (b := b) (p := p) (n := 2); rw [g1] at this; exact this
  have ok1 := getS_2 (b := b) (p := p) (n := 2) hp (by simp)
  rw [g1] at ok1
  rw [call_F (by decide) h94 F94 rfl R94]; simp only [Try.f94, Option.getD]
  by_cases x1 : e1 = 0
  rotate_left
  · rw [mustS_e x1] at n1
    rw [entR_e x1 (ent_1 x1 n1)]
    simp +contextual (maxSteps := 3000000) only [↓code_seq, ↓code_region, ↓code_cond, ↓code_ret, aCond_bool, ↓ops_nil, ↓ops_cons, run_none, ↓run0_v, ↓run0_h, ↓run0_r, ↓seqK_normal, ↓seqK_ret, ↓retK_ret, put_same, put_ne, put_none, env0_at, ev_tmp, ev_const, ev_func, oc_int, o_move, o_assign, o_bin, o_call, o_alloc, o_build, o_store, o_extract, g_none, bin_neq, extract_tup, next_e0, resultsOf, oneOrAll, Option.map_some, Option.getD_some, ↓reduceIte, Nat.reduceEqDiff, not_false_eq_true, reduceCtorEq, List.getElem?_cons_zero, List.getElem?_cons_succ, List.map_cons, List.map_nil, List.append_nil, List.nil_append, Bool.not_eq_eq_eq_not, Bool.not_true, ne_eq, decide_eq_false_iff_not, alloc_t T70, z70, build_struct T70 d70, parts_eq, fillA, run0_h, callV_fn (g := 103) (by decide), t3, run0_h, k1, x1, zst]
    exact ⟨_, rfl⟩
  subst x1
  by_cases y1 : 65279 < v1
  · rw [mustS_3 (within_f (.inr y1))] at n1
    rw [entR_e not3 (ent_1 not3 n1)]
    simp +contextual (maxSteps := 3000000) only [↓code_skip, ↓code_seq, ↓code_region, ↓code_cond, ↓code_ret, aCond_bool, ↓ops_nil, ↓ops_cons, run_none, ↓run0_v, ↓run0_h, ↓run0_r, ↓seqK_normal, ↓seqK_ret, ↓retK_ret, put_same, put_ne, put_none, env0_at, ev_tmp, ev_const, ev_func, oc_int, o_move, o_assign, o_bin, o_call, o_alloc, o_build, o_store, o_extract, g_none, bin_neq, bin_gtr, extract_tup, next_e0, resultsOf, oneOrAll, Option.map_some, Option.getD_some, decide_eq_true_eq, ↓reduceIte, Nat.reduceEqDiff, not_false_eq_true, not_true_eq_false, reduceCtorEq, List.getElem?_cons_zero, List.getElem?_cons_succ, List.map_cons, List.map_nil, List.append_nil, List.nil_append, gt_iff_lt, Bool.not_eq_eq_eq_not, Bool.not_true, ne_eq, decide_eq_false_iff_not, alloc_t T70, z70, build_struct T70 d70, parts_eq, fillA, run0_h, callV_fn (g := 103) (by decide), t3, run0_h, k1, y1, zst]
    exact ⟨_, rfl⟩
  rw [mustS_t (within_t ⟨by omega, by omega⟩)] at n1
  simp +contextual (maxSteps := 3000000) only [↓code_skip, ↓code_seq, ↓code_region, ↓code_cond, ↓code_block, ↓code_loop, aCond_bool, ↓ops_nil, ↓ops_cons, run_none, ↓run0_v, ↓run0_r, ↓seqK_normal, put_same, put_ne, env0_at, ev_tmp, ev_const, ev_func, oc_int, o_move, o_assign, o_bin, o_call, o_alloc, o_extract, g_none, bin_neq, bin_gtr, extract_tup, next_e0, Option.getD_some, decide_eq_true_eq, ↓reduceIte, Nat.reduceEqDiff, not_false_eq_true, not_true_eq_false, Nat.reduceAdd, reduceCtorEq, List.getElem?_cons_zero, List.getElem?_cons_succ, List.map_cons, List.map_nil, List.append_nil, List.nil_append, AH.next_alloc, gt_iff_lt, Bool.not_eq_eq_eq_not, Bool.not_true, ne_eq, decide_eq_false_iff_not, alloc_t T70, z70, alloc_t T127, z127, callV_fn (g := 103) (by decide), t3, k1, y1]
  have o1 := ok1 rfl
  refine iterL_wp (Q := fun r => ∃ h', r = some (tE (entR kd b p), h')) (N := 3) (Inv := fun k e h' => ∃ j q X, k + j = 3 ∧ j ≤ 3 ∧ stN b p1 0 j = (q, 0) ∧ (0 ≤ q ∧ q ≤ b.length) ∧ h'.get 0 = some (.cells [.str [], .str [], .str [], .int .i64 0, .int .i64 0, .int .i64 0, .int .i64 0] .own) ∧ h'.get 1 = some (.cells (arN b p1 j) .own) ∧ h'.next = 2 ∧ X = 0 ∧ e 0 = .lst false 1 b.length (b.map vByte.enc) ∧ e 1 = .int .i64 q ∧ e 2 = .int .i64 kd ∧ e 6 = .ptr 0 0 ∧ e 7 = .int .i64 0 ∧ e 8 = .int .i64 0 ∧ e 9 = .int .i64 v1 ∧ e 11 = .ptr 1 0 ∧ e 12 = .int .i64 (j : Nat)) ?_ ?_ (by omega)
  · rintro k e h' K' ⟨j, q, X, hk, hj, hst, hq, hg0, hg1, hnx, hX, e0, e1, e2, e6, e7, e8, e9, e11, e12⟩ hnext hexit
    by_cases hj3 : j < 3
    · have c1 : (j : Int) < 3 := by omega
      obtain ⟨v, q', er, g⟩ : ∃ x y z, getS b q 1 = (x, y, z) := ⟨_, _, _, rfl⟩
      have k2 := fun m h => K103 h103 m b false q 1 h hl hq
      rw [g] at k2
      have n2 := nu_eq (lo := loJ j) (hi := hiJ j) g
      have l2 : 0 ≤ v := by have := getS_nn (b := b) (p := q) (n := 1); rw [g] at this; exact this
      have u2 : v ≤ 255 := by have := getS_255 (b := b) (p := q); rw [g] at this; exact this
      have ok2 := getS_2 (b := b) (p := q) (n := 1) hq (by simp)
      rw [g] at ok2
      have hs1 : stN b p1 0 (j + 1) = (q', mustS (within v (loJ j) (hiJ j)) er) := by rw [stN, hst, n2]
      have hv1 : vN b p1 0 j = v := by rw [vN, hst, n2]
      have hz := z70_st hg0 rfl zN
      simp only [zN] at hz
      by_cases x2 : er = 0
      rotate_left
      · rw [mustS_e x2] at hs1
        have hE := entR_e (k := kd) (p := p) x2 (ent_N x2 n1 (stN_3 hj3 x2 (by rw [hs1])))
        simp +contextual (maxSteps := 3000000) only [↓code_skip, ↓code_seq, ↓code_region, ↓code_cond, ↓code_block, ↓code_ret, aCond_bool, ↓ops_nil, ↓ops_cons, run_none, ↓run0_v, ↓run0_h, ↓run0_r, ↓seqK_normal, ↓seqK_ret, ↓blkK_ret, put_same, put_ne, put_none, ev_tmp, ev_const, ev_func, oc_int, o_move, o_assign, o_bin, o_call, o_build, o_store, o_extract, g_none, bin_neq, bin_lss, extract_tup, Option.map_some, decide_eq_true_eq, ↓reduceIte, Nat.reduceEqDiff, not_false_eq_true, reduceCtorEq, List.getElem?_cons_zero, List.getElem?_cons_succ, List.map_cons, List.map_nil, List.append_nil, List.nil_append, Bool.not_eq_eq_eq_not, Bool.not_true, ne_eq, decide_eq_false_iff_not, z70, build_struct T70 d70, parts_eq, fillA, run0_h, callV_fn (g := 103) (by decide), t3, run0_h, e0, e1, e6, e12, c1, k2, x2, hz]
        refine hexit _ _ _ (by simp) ?_
        rw [hE]
        simp +contextual (maxSteps := 3000000) only [↓seqK_ret, ↓blkK_ret, ↓retK_ret, put_same, put_ne, resultsOf, oneOrAll, Option.bind_some, Option.map_some, Nat.reduceEqDiff, not_false_eq_true, ne_eq, e6, ld70]
        exact ⟨_, rfl⟩
      subst x2
      have o2 := ok2 rfl
      by_cases y2 : j = 1 ∧ (v < 1 ∨ 254 < v)
      · obtain ⟨rfl, y2⟩ := y2
        rw [mustS_3 (within_f (by show v < 1 ∨ 254 < v; exact y2))] at hs1
        have hE := entR_e (k := kd) (p := p) not3 (ent_N not3 n1 (stN_3 hj3 not3 (by rw [hs1])))
        have c2 : ((1 : Nat) : Int) = 1 := rfl
        by_cases y3 : v < 1
        · simp +contextual (maxSteps := 3000000) only [↓code_skip, ↓code_seq, ↓code_region, ↓code_cond, ↓code_block, ↓code_exit, ↓code_ret, aCond_bool, ↓ops_nil, ↓ops_cons, run_none, run_someT, run_someF, ↓run0_v, ↓run0_h, ↓run0_r, ↓seqK_normal, ↓seqK_exit, ↓seqK_ret, ↓blkK_ret, put_same, put_ne, put_none, ev_tmp, ev_const, ev_func, oc_int, oc_bool, o_move, o_assign, o_pick, o_bin, o_call, o_build, o_store, o_extract, g_none, g_some, pick_bool, bin_eql, bin_neq, bin_lss, extract_tup, Option.bind_some, Option.map_some, decide_eq_true_eq, ↓reduceIte, Nat.reduceEqDiff, not_false_eq_true, not_true_eq_false, reduceCtorEq, List.getElem?_cons_zero, List.getElem?_cons_succ, List.getElem?_toArray, List.map_cons, List.map_nil, List.append_nil, List.nil_append, Bool.not_eq_eq_eq_not, Bool.not_true, ne_eq, decide_eq_false_iff_not, z70, build_struct T70 d70, parts_eq, fillA, run0_h, callV_fn (g := 103) (by decide), t3, run0_h, e0, e1, e6, e12, c2, k2, y3, hz]
          refine hexit _ _ _ (by simp) ?_
          rw [hE]
          simp +contextual (maxSteps := 3000000) only [↓seqK_ret, ↓blkK_ret, ↓retK_ret, put_same, put_ne, resultsOf, oneOrAll, Option.bind_some, Option.map_some, Nat.reduceEqDiff, not_false_eq_true, ne_eq, e6, ld70]
          exact ⟨_, rfl⟩
        · have y4 : 254 < v := by omega
          simp +contextual (maxSteps := 3000000) only [↓code_skip, ↓code_seq, ↓code_region, ↓code_cond, ↓code_block, ↓code_exit, ↓code_ret, aCond_bool, ↓ops_nil, ↓ops_cons, run_none, run_someT, run_someF, ↓run0_v, ↓run0_h, ↓run0_r, ↓seqK_normal, ↓seqK_exit, ↓seqK_ret, ↓blkK_ret, put_same, put_ne, put_none, ev_tmp, ev_const, ev_func, oc_int, oc_bool, o_move, o_assign, o_pick, o_bin, o_call, o_build, o_store, o_extract, g_none, g_some, pick_bool, bin_eql, bin_neq, bin_lss, bin_gtr, extract_tup, Option.bind_some, Option.map_some, decide_eq_true_eq, ↓reduceIte, Nat.reduceEqDiff, not_false_eq_true, not_true_eq_false, reduceCtorEq, List.getElem?_cons_zero, List.getElem?_cons_succ, List.getElem?_toArray, List.map_cons, List.map_nil, List.append_nil, List.nil_append, gt_iff_lt, Bool.not_eq_eq_eq_not, Bool.not_true, ne_eq, decide_eq_false_iff_not, z70, build_struct T70 d70, parts_eq, fillA, run0_h, callV_fn (g := 103) (by decide), t3, run0_h, e0, e1, e6, e12, c2, k2, y3, y4, hz]
          refine hexit _ _ _ (by simp) ?_
          rw [hE]
          simp +contextual (maxSteps := 3000000) only [↓seqK_ret, ↓blkK_ret, ↓retK_ret, put_same, put_ne, resultsOf, oneOrAll, Option.bind_some, Option.map_some, Nat.reduceEqDiff, not_false_eq_true, ne_eq, e6, ld70]
          exact ⟨_, rfl⟩
      · have hw : within v (loJ j) (hiJ j) = true := by
          refine within_t ?_
          unfold loJ hiJ
          by_cases h1 : j = 1
          · rw [if_pos h1, if_pos h1]; omega
          · rw [if_neg h1, if_neg h1]; omega
        rw [mustS_t hw] at hs1
        have c3 : (0 : Int) ≤ (j : Int) := by omega
        have c1b : (j : Int) < ((3 : Nat) : Int) := by omega
        have hgs : (h'.put 1 (.cells (arN b p1 (j + 1)) .own)).get 1 = some (.cells (arN b p1 (j + 1)) .own) := by rw [AH.get_put, if_pos rfl]
        have hst1 : aStore T 3 (.ptr 1 (0 + j * 1)) (.int .i64 v) h' = some (h'.put 1 (.cells (arN b p1 (j + 1)) .own)) := by
          rw [store_1 T3 s3 rfl rfl hg1 (by simp [arN]; omega), show 0 + j * 1 = j by omega, ← hv1, arN_set b p1 hj3]
        have c6 : IntKind.i64.wrap ((j : Int) + 1) = ((j + 1 : Nat) : Int) := by rw [wrap_i64 (by omega) (by omega)]; omega
        by_cases h1 : (j : Int) = 1
        · have y3 : ¬ v < 1 := by omega
          have y4 : ¬ 254 < v := by omega
          have h1p : ((j : Int) = 1) = True := eq_true h1
          clear h1
          simp +contextual (maxSteps := 3000000) only [↓code_skip, ↓code_seq, ↓code_region, ↓code_cond, ↓code_block, aCond_bool, ↓ops_nil, ↓ops_cons, run_none, run_someT, run_someF, ↓run0_v, ↓run0_h, ↓run0_r, ↓seqK_normal, ↓blkK_normal, put_same, put_ne, put_none, ev_tmp, ev_const, ev_func, oc_int, oc_bool, o_move, o_assign, o_pick, o_bin, o_call, o_store, o_indexAddr, o_extract, g_none, g_some, pick_bool, bin_add, bin_eql, bin_neq, bin_lss, bin_gtr, extract_tup, Option.bind_some, decide_eq_true_eq, ↓reduceIte, Nat.reduceEqDiff, not_false_eq_true, not_true_eq_false, reduceCtorEq, List.getElem?_cons_zero, List.getElem?_cons_succ, List.getElem?_toArray, List.map_cons, List.map_nil, List.append_nil, List.nil_append, and_true, gt_iff_lt, Bool.not_eq_eq_eq_not, Bool.not_true, ne_eq, decide_eq_false_iff_not, ia_arr T127 d127 T3, s3, run0_h, callV_fn (g := 103) (by decide), t3, run0_h, e0, e1, e11, e12, c1, c1b, c3, k2, h1p, y3, y4, hst1, toNat_cast]
          refine hnext (k - 1) _ _ (by omega) ⟨j + 1, q', 0, by omega, ?_, ?_, ?_, ?_, ?_, ?_, ?_, ?_, ?_, ?_, ?_, ?_, ?_, ?_, ?_, ?_⟩
          · omega
          · (exact hs1)
          · exact o2
          · (rw [AH.get_put, if_neg (by decide)]; exact hg0)
          · exact hgs
          · (simp [hnx])
          · rfl
          · simp only [put_ne, not_false_eq_true, reduceCtorEq, ne_eq, e0]
          · simp only [put_same, put_ne, Nat.reduceEqDiff, not_false_eq_true, ne_eq]
          · simp only [put_ne, Nat.reduceEqDiff, not_false_eq_true, Nat.succ_ne_self, ne_eq, e2]
          · simp only [put_ne, Nat.reduceEqDiff, not_false_eq_true, ne_eq, e6]
          · simp only [put_ne, Nat.reduceEqDiff, not_false_eq_true, ne_eq, e7]
          · simp only [put_ne, Nat.reduceEqDiff, not_false_eq_true, ne_eq, e8]
          · simp only [put_ne, Nat.reduceEqDiff, not_false_eq_true, ne_eq, e9]
          · simp only [put_ne, Nat.reduceEqDiff, not_false_eq_true, ne_eq, e11]
          · simp only [put_same]; rw [c6]
        · simp +contextual (maxSteps := 3000000) only [↓code_skip, ↓code_seq, ↓code_region, ↓code_cond, ↓code_block, aCond_bool, ↓ops_nil, ↓ops_cons, run_none, run_someT, run_tup, ↓run0_v, ↓run0_h, ↓run0_r, ↓seqK_normal, ↓blkK_normal, put_same, put_ne, put_none, ev_tmp, ev_const, ev_func, oc_int, oc_bool, o_move, o_assign, o_pick, o_bin, o_call, o_store, o_indexAddr, o_extract, g_none, g_some, pick_bool, bin_add, bin_eql, bin_neq, bin_lss, extract_tup, Option.bind_some, decide_eq_true_eq, ↓reduceIte, Nat.reduceEqDiff, not_false_eq_true, not_true_eq_false, reduceCtorEq, List.getElem?_cons_zero, List.getElem?_cons_succ, List.getElem?_toArray, Bool.false_eq_true, List.map_cons, List.map_nil, List.append_nil, List.nil_append, and_true, Bool.not_eq_eq_eq_not, Bool.not_true, ne_eq, decide_eq_false_iff_not, ia_arr T127 d127 T3, s3, run0_h, callV_fn (g := 103) (by decide), t3, run0_h, e0, e1, e11, e12, c1, c1b, c3, k2, h1, hst1, toNat_cast]
          refine hnext (k - 1) _ _ (by omega) ⟨j + 1, q', 0, by omega, ?_, ?_, ?_, ?_, ?_, ?_, ?_, ?_, ?_, ?_, ?_, ?_, ?_, ?_, ?_, ?_⟩
          · omega
          · (exact hs1)
          · exact o2
          · (rw [AH.get_put, if_neg (by decide)]; exact hg0)
          · exact hgs
          · (simp [hnx])
          · rfl
          · simp only [put_ne, not_false_eq_true, reduceCtorEq, ne_eq, e0]
          · simp only [put_same, put_ne, Nat.reduceEqDiff, not_false_eq_true, ne_eq]
          · simp only [put_ne, Nat.reduceEqDiff, not_false_eq_true, Nat.succ_ne_self, ne_eq, e2]
          · simp only [put_ne, Nat.reduceEqDiff, not_false_eq_true, ne_eq, e6]
          · simp only [put_ne, Nat.reduceEqDiff, not_false_eq_true, ne_eq, e7]
          · simp only [put_ne, Nat.reduceEqDiff, not_false_eq_true, ne_eq, e8]
          · simp only [put_ne, Nat.reduceEqDiff, not_false_eq_true, ne_eq, e9]
          · simp only [put_ne, Nat.reduceEqDiff, not_false_eq_true, ne_eq, e11]
          · simp only [put_same]; rw [c6]
    · have c1 : ¬ (j : Int) < 3 := by omega
      have hjj : j = 3 := by omega
      subst hjj
      simp +contextual (maxSteps := 3000000) only [↓code_seq, ↓code_region, ↓code_cond, ↓code_exit, aCond_bool, ↓ops_nil, ↓ops_cons, run_none, ↓run0_v, ↓seqK_normal, ↓seqK_exit, put_same, ev_tmp, ev_const, oc_int, o_move, o_bin, g_none, bin_lss, decide_eq_true_eq, ↓reduceIte, e12, c1]
      refine hexit _ _ _ (by simp) ?_
      simp +contextual (maxSteps := 3000000) only [↓code_seq, ↓code_region, ↓code_block, ↓code_loop, ↓ops_nil, ↓ops_cons, run_none, ↓run0_v, ↓run0_r, ↓seqK_normal, ↓blkK_exit, ev_const, oc_int, o_assign, o_alloc, g_none, ↓reduceIte, alloc_t T128, z128, hnx]
      obtain ⟨pn, hpn⟩ : ∃ x, x = q := ⟨_, rfl⟩
      rw [← hpn] at hst
      clear hnext hexit
      refine iterL_wp (Q := fun r => ∃ h', r = some (tE (entR kd b p), h')) (N := 3) (Inv := fun k e h' => ∃ j q, k + j = 3 ∧ j ≤ 3 ∧ stT kd b pn 0 j = (q, 0) ∧ (0 ≤ q ∧ q ≤ b.length) ∧ h'.get 0 = some (.cells [.str [], .str [], .str [], .int .i64 0, .int .i64 0, .int .i64 0, .int .i64 0] .own) ∧ h'.get 1 = some (.cells (arN b p1 3) .own) ∧ h'.get 2 = some (.cells (arT kd b pn j) .own) ∧ e 0 = .lst false 1 b.length (b.map vByte.enc) ∧ e 1 = .int .i64 q ∧ e 2 = .int .i64 kd ∧ e 6 = .ptr 0 0 ∧ e 7 = .int .i64 0 ∧ e 8 = .int .i64 0 ∧ e 9 = .int .i64 v1 ∧ e 11 = .ptr 1 0 ∧ e 16 = .ptr 2 0 ∧ e 17 = .int .i64 (j : Nat)) ?_ ?_ (by omega)
      · rintro k e h' K' ⟨j, q, hk, hj, hst2, hq, hg0, hg1, hg2, e0, e1, e2, e6, e7, e8, e9, e11, e16, e17⟩ hnext hexit
        by_cases hj3 : j < 3
        · have c1 : (j : Int) < 3 := by omega
          obtain ⟨v, q', er, g⟩ : ∃ x y z, textS b q = (x, y, z) := ⟨_, _, _, rfl⟩
          have k2 := fun m h => K114 h114 m b false q h hl hq
          rw [g] at k2
          have n2 := tx_eq (w := wJ kd j) g
          have hvl : v.length < 140737488355328 := by have := textS_len (b := b) (p := q); rw [g] at this; simp only at this; omega
          have ok2 := textS_ok (b := b) (p := q)
          rw [g] at ok2
          have hs1 : stT kd b pn 0 (j + 1) = (q', mustS (okTx (wJ kd j) v) er) := by rw [stT, hst2, n2]
          have hv1 : vT kd b pn 0 j = v := by rw [vT, hst2, n2]
          have hz := z70_st hg0 rfl zN
          simp only [zN] at hz
          by_cases x2 : er = 0
          rotate_left
          · rw [mustS_e x2] at hs1
            have hE := entR_e (k := kd) (p := p) x2 (ent_T n1 hst (stT_3 hj3 x2 (by rw [hs1])))
            simp +contextual (maxSteps := 3000000) only [↓code_skip, ↓code_seq, ↓code_region, ↓code_cond, ↓code_block, ↓code_ret, aCond_bool, ↓ops_nil, ↓ops_cons, run_none, ↓run0_v, ↓run0_h, ↓run0_r, ↓seqK_normal, ↓seqK_ret, ↓blkK_ret, put_same, put_ne, put_none, ev_tmp, ev_const, ev_func, oc_int, o_move, o_assign, o_bin, o_call, o_build, o_store, o_extract, g_none, bin_neq, bin_lss, extract_tup, Option.map_some, decide_eq_true_eq, ↓reduceIte, Nat.reduceEqDiff, not_false_eq_true, reduceCtorEq, List.getElem?_cons_zero, List.getElem?_cons_succ, List.map_cons, List.map_nil, List.append_nil, List.nil_append, Bool.not_eq_eq_eq_not, Bool.not_true, ne_eq, decide_eq_false_iff_not, z70, build_struct T70 d70, parts_eq, fillA, run0_h, callV_fn (g := 114) (by decide), t3t, run0_h, e0, e1, e6, e17, c1, k2, x2, hz]
            refine hexit _ _ _ (by simp) ?_
            rw [hE]
            simp +contextual (maxSteps := 3000000) only [↓seqK_ret, ↓blkK_ret, ↓retK_ret, put_same, put_ne, resultsOf, oneOrAll, Option.bind_some, Option.map_some, Nat.reduceEqDiff, not_false_eq_true, ne_eq, e6, ld70]
            exact ⟨_, rfl⟩
          subst x2
          have o2 := ok2 rfl
          have u2 := textS_31 g
          by_cases y2 : (v.length : Int) = 0
          · rw [mustS_3 (okTx_0 y2)] at hs1
            have hE := entR_e (k := kd) (p := p) not3 (ent_T n1 hst (stT_3 hj3 not3 (by rw [hs1])))
            simp +contextual (maxSteps := 3000000) only [↓code_skip, ↓code_seq, ↓code_region, ↓code_cond, ↓code_block, ↓code_ret, aCond_bool, ↓ops_nil, ↓ops_cons, run_none, run_someF, run_tup, ↓run0_v, ↓run0_h, ↓run0_r, ↓seqK_normal, ↓seqK_ret, ↓blkK_ret, put_same, put_ne, put_none, ev_tmp, ev_const, ev_func, oc_int, oc_bool, o_move, o_assign, o_pick, o_bin, o_call, o_len, o_build, o_store, o_extract, g_none, g_some, pick_bool, bin_eql, bin_neq, bin_lss, extract_tup, Option.bind_some, Option.map_some, decide_eq_true_eq, ↓reduceIte, Nat.reduceEqDiff, not_false_eq_true, not_true_eq_false, reduceCtorEq, List.getElem?_cons_zero, List.getElem?_cons_succ, List.getElem?_toArray, List.map_cons, List.map_nil, List.append_nil, List.nil_append, Bool.not_eq_eq_eq_not, Bool.not_true, ne_eq, decide_eq_false_iff_not, z70, build_struct T70 d70, parts_eq, fillA, run0_h, len_str T9 d9, callV_fn (g := 88) (by decide), callV_fn (g := 114) (by decide), t3t, run0_h, e0, e1, e2, e6, e17, c1, k2, y2, hz]
            refine hexit _ _ _ (by simp) ?_
            rw [hE]
            simp +contextual (maxSteps := 3000000) only [↓seqK_ret, ↓blkK_ret, ↓retK_ret, put_same, put_ne, resultsOf, oneOrAll, Option.bind_some, Option.map_some, Nat.reduceEqDiff, not_false_eq_true, ne_eq, e6, ld70]
            exact ⟨_, rfl⟩
          by_cases y3 : (j : Int) < 2 ∧ kd = 3 ∧ wild v = true
          · obtain ⟨y3, y4, y5⟩ := y3
            have hw : okTx (wJ kd j) v = false := by
              have : wJ kd j = false := by simp [wJ, y4]; omega
              rw [this]; exact okTx_w y5
            rw [mustS_3 hw] at hs1
            have hE := entR_e (k := kd) (p := p) not3 (ent_T n1 hst (stT_3 hj3 not3 (by rw [hs1])))
            have y4p : (kd = 3) = True := eq_true y4
            clear y4
            simp +contextual (maxSteps := 3000000) only [↓code_skip, ↓code_seq, ↓code_region, ↓code_cond, ↓code_block, ↓code_ret, aCond_bool, ↓ops_nil, ↓ops_cons, run_none, run_someT, run_someF, ↓run0_v, ↓run0_h, ↓run0_r, ↓seqK_normal, ↓seqK_ret, ↓blkK_ret, put_same, put_ne, put_none, ev_tmp, ev_const, ev_func, oc_int, oc_bool, o_move, o_assign, o_pick, o_bin, o_call, o_len, o_build, o_store, o_extract, g_none, g_some, pick_bool, bin_eql, bin_neq, bin_lss, extract_tup, Option.bind_some, Option.map_some, decide_eq_true_eq, ↓reduceIte, Nat.reduceEqDiff, not_false_eq_true, not_true_eq_false, reduceCtorEq, List.getElem?_cons_zero, List.getElem?_cons_succ, List.getElem?_toArray, List.map_cons, List.map_nil, List.append_nil, List.nil_append, Bool.not_eq_eq_eq_not, Bool.not_true, ne_eq, decide_eq_false_iff_not, z70, build_struct T70 d70, parts_eq, fillA, run0_h, len_str T9 d9, callV_fn (g := 88) (by decide), K88 h112 h88, callV_fn (g := 114) (by decide), t3t, run0_h, e0, e1, e2, e6, e17, c1, k2, y2, y3, y4p, y5, hvl, hz]
            refine hexit _ _ _ (by simp) ?_
            rw [hE]
            simp +contextual (maxSteps := 3000000) only [↓seqK_ret, ↓blkK_ret, ↓retK_ret, put_same, put_ne, resultsOf, oneOrAll, Option.bind_some, Option.map_some, Nat.reduceEqDiff, not_false_eq_true, ne_eq, e6, ld70]
            exact ⟨_, rfl⟩
          · have hw : okTx (wJ kd j) v = true := by
              refine okTx_t ⟨by omega, u2⟩ ?_
              by_cases y4 : (j : Int) < 2
              · by_cases y5 : kd = 3
                · right
                  cases hwv : wild v with
                  | false => rfl
                  | true => exact absurd ⟨y4, y5, hwv⟩ y3
                · left; simp [wJ, y5]
              · left
                have : ¬ j < 2 := by omega
                simp [wJ, this]
            rw [mustS_t hw] at hs1
            have c3 : (0 : Int) ≤ (j : Int) := by omega
            have c1b : (j : Int) < ((3 : Nat) : Int) := by omega
            have hgs : (h'.put 2 (.cells (arT kd b pn (j + 1)) .own)).get 2 = some (.cells (arT kd b pn (j + 1)) .own) := by rw [AH.get_put, if_pos rfl]
            have hst1 : aStore T 9 (.ptr 2 (0 + j * 1)) (.str v) h' = some (h'.put 2 (.cells (arT kd b pn (j + 1)) .own)) := by
              rw [store_1 T9 s9 rfl rfl hg2 (by simp [arT]; omega), show 0 + j * 1 = j by omega, ← hv1, arT_set kd b pn hj3]
            have c6 : IntKind.i64.wrap ((j : Int) + 1) = ((j + 1 : Nat) : Int) := by rw [wrap_i64 (by omega) (by omega)]; omega
            by_cases y4 : (j : Int) < 2
            · by_cases y5 : kd = 3
              · cases y6 : wild v with
                | true => exact absurd ⟨y4, y5, y6⟩ y3
                | false =>
                  have y5p : (kd = 3) = True := eq_true y5
                  clear y5 y3
                  simp +contextual (maxSteps := 3000000) only [↓code_skip, ↓code_seq, ↓code_region, ↓code_cond, ↓code_block, aCond_bool, ↓ops_nil, ↓ops_cons, run_none, run_someT, run_someF, ↓run0_v, ↓run0_h, ↓run0_r, ↓seqK_normal, ↓blkK_normal, put_same, put_ne, put_none, ev_tmp, ev_const, ev_func, oc_int, oc_bool, o_move, o_assign, o_pick, o_bin, o_call, o_len, o_store, o_indexAddr, o_extract, g_none, g_some, pick_bool, bin_add, bin_eql, bin_neq, bin_lss, extract_tup, Option.bind_some, decide_eq_true_eq, ↓reduceIte, Nat.reduceEqDiff, not_false_eq_true, not_true_eq_false, reduceCtorEq, List.getElem?_cons_zero, List.getElem?_cons_succ, List.getElem?_toArray, Bool.false_eq_true, List.map_cons, List.map_nil, List.append_nil, List.nil_append, and_true, Bool.not_eq_eq_eq_not, Bool.not_true, ne_eq, decide_eq_false_iff_not, run0_h, len_str T9 d9, ia_arr T128 d128 T9, s9, callV_fn (g := 88) (by decide), K88 h112 h88, callV_fn (g := 114) (by decide), t3t, run0_h, e0, e1, e2, e16, e17, c1, c1b, c3, k2, y2, y4, y5p, y6, hvl, hst1, toNat_cast]
                  refine hnext (k - 1) _ _ (by omega) ⟨j + 1, q', by omega, ?_, ?_, ?_, ?_, ?_, ?_, ?_, ?_, ?_, ?_, ?_, ?_, ?_, ?_, ?_, ?_⟩
                  · omega
                  · (exact hs1)
                  · exact o2
                  · (rw [AH.get_put, if_neg (by decide)]; exact hg0)
                  · (rw [AH.get_put, if_neg (by decide)]; exact hg1)
                  · exact hgs
                  · simp only [put_ne, not_false_eq_true, reduceCtorEq, ne_eq, e0]
                  · simp only [put_same, put_ne, Nat.reduceEqDiff, not_false_eq_true, ne_eq]
                  · simp only [put_ne, Nat.reduceEqDiff, not_false_eq_true, Nat.succ_ne_self, ne_eq, e2]
                  · simp only [put_ne, Nat.reduceEqDiff, not_false_eq_true, ne_eq, e6]
                  · simp only [put_ne, Nat.reduceEqDiff, not_false_eq_true, ne_eq, e7]
                  · simp only [put_ne, Nat.reduceEqDiff, not_false_eq_true, ne_eq, e8]
                  · simp only [put_ne, Nat.reduceEqDiff, not_false_eq_true, ne_eq, e9]
                  · simp only [put_ne, Nat.reduceEqDiff, not_false_eq_true, ne_eq, e11]
                  · simp only [put_ne, Nat.reduceEqDiff, not_false_eq_true, ne_eq, e16]
                  · simp only [put_same]; rw [c6]
              · clear y3
                simp +contextual (maxSteps := 3000000) only [↓code_skip, ↓code_seq, ↓code_region, ↓code_cond, ↓code_block, aCond_bool, ↓ops_nil, ↓ops_cons, run_none, run_someT, run_someF, ↓run0_v, ↓run0_h, ↓run0_r, ↓seqK_normal, ↓blkK_normal, put_same, put_ne, put_none, ev_tmp, ev_const, ev_func, oc_int, oc_bool, o_move, o_assign, o_pick, o_bin, o_call, o_len, o_store, o_indexAddr, o_extract, g_none, g_some, pick_bool, bin_add, bin_eql, bin_neq, bin_lss, extract_tup, Option.bind_some, decide_eq_true_eq, ↓reduceIte, Nat.reduceEqDiff, not_false_eq_true, not_true_eq_false, reduceCtorEq, List.getElem?_cons_zero, List.getElem?_cons_succ, List.getElem?_toArray, Bool.false_eq_true, List.map_cons, List.map_nil, List.append_nil, List.nil_append, and_true, Bool.not_eq_eq_eq_not, Bool.not_true, ne_eq, decide_eq_false_iff_not, run0_h, len_str T9 d9, ia_arr T128 d128 T9, s9, callV_fn (g := 88) (by decide), callV_fn (g := 114) (by decide), t3t, run0_h, e0, e1, e2, e16, e17, c1, c1b, c3, k2, y2, y4, y5, hst1, toNat_cast]
                refine hnext (k - 1) _ _ (by omega) ⟨j + 1, q', by omega, ?_, ?_, ?_, ?_, ?_, ?_, ?_, ?_, ?_, ?_, ?_, ?_, ?_, ?_, ?_, ?_⟩
                · omega
                · (exact hs1)
                · exact o2
                · (rw [AH.get_put, if_neg (by decide)]; exact hg0)
                · (rw [AH.get_put, if_neg (by decide)]; exact hg1)
                · exact hgs
                · simp only [put_ne, not_false_eq_true, reduceCtorEq, ne_eq, e0]
                · simp only [put_same, put_ne, Nat.reduceEqDiff, not_false_eq_true, ne_eq]
                · simp only [put_ne, Nat.reduceEqDiff, not_false_eq_true, Nat.succ_ne_self, ne_eq, e2]
                · simp only [put_ne, Nat.reduceEqDiff, not_false_eq_true, ne_eq, e6]
                · simp only [put_ne, Nat.reduceEqDiff, not_false_eq_true, ne_eq, e7]
                · simp only [put_ne, Nat.reduceEqDiff, not_false_eq_true, ne_eq, e8]
                · simp only [put_ne, Nat.reduceEqDiff, not_false_eq_true, ne_eq, e9]
                · simp only [put_ne, Nat.reduceEqDiff, not_false_eq_true, ne_eq, e11]
                · simp only [put_ne, Nat.reduceEqDiff, not_false_eq_true, ne_eq, e16]
                · simp only [put_same]; rw [c6]
            · clear y3
              simp +contextual (maxSteps := 3000000) only [↓code_skip, ↓code_seq, ↓code_region, ↓code_cond, ↓code_block, aCond_bool, ↓ops_nil, ↓ops_cons, run_none, run_someT, run_someF, ↓run0_v, ↓run0_h, ↓run0_r, ↓seqK_normal, ↓blkK_normal, put_same, put_ne, put_none, ev_tmp, ev_const, ev_func, oc_int, oc_bool, o_move, o_assign, o_pick, o_bin, o_call, o_len, o_store, o_indexAddr, o_extract, g_none, g_some, pick_bool, bin_add, bin_eql, bin_neq, bin_lss, extract_tup, Option.bind_some, decide_eq_true_eq, ↓reduceIte, Nat.reduceEqDiff, not_false_eq_true, not_true_eq_false, reduceCtorEq, List.getElem?_cons_zero, List.getElem?_cons_succ, List.getElem?_toArray, Bool.false_eq_true, List.map_cons, List.map_nil, List.append_nil, List.nil_append, and_true, Bool.not_eq_eq_eq_not, Bool.not_true, ne_eq, decide_eq_false_iff_not, run0_h, len_str T9 d9, ia_arr T128 d128 T9, s9, callV_fn (g := 88) (by decide), callV_fn (g := 114) (by decide), t3t, run0_h, e0, e1, e2, e16, e17, c1, c1b, c3, k2, y2, y4, hst1, toNat_cast]
              refine hnext (k - 1) _ _ (by omega) ⟨j + 1, q', by omega, ?_, ?_, ?_, ?_, ?_, ?_, ?_, ?_, ?_, ?_, ?_, ?_, ?_, ?_, ?_, ?_⟩
              · omega
              · (exact hs1)
              · exact o2
              · (rw [AH.get_put, if_neg (by decide)]; exact hg0)
              · (rw [AH.get_put, if_neg (by decide)]; exact hg1)
              · exact hgs
              · simp only [put_ne, not_false_eq_true, reduceCtorEq, ne_eq, e0]
              · simp only [put_same, put_ne, Nat.reduceEqDiff, not_false_eq_true, ne_eq]
              · simp only [put_ne, Nat.reduceEqDiff, not_false_eq_true, Nat.succ_ne_self, ne_eq, e2]
              · simp only [put_ne, Nat.reduceEqDiff, not_false_eq_true, ne_eq, e6]
              · simp only [put_ne, Nat.reduceEqDiff, not_false_eq_true, ne_eq, e7]
              · simp only [put_ne, Nat.reduceEqDiff, not_false_eq_true, ne_eq, e8]
              · simp only [put_ne, Nat.reduceEqDiff, not_false_eq_true, ne_eq, e9]
              · simp only [put_ne, Nat.reduceEqDiff, not_false_eq_true, ne_eq, e11]
              · simp only [put_ne, Nat.reduceEqDiff, not_false_eq_true, ne_eq, e16]
              · simp only [put_same]; rw [c6]
        · have c1 : ¬ (j : Int) < 3 := by omega
          have hjj : j = 3 := by omega
          subst hjj
          have hE := ent_ok n1 hst hst2
          have hg1' : h'.get 1 = some (.cells [.int .i64 (vN b p1 0 0), .int .i64 (vN b p1 0 1), .int .i64 (vN b p1 0 2)] .own) := hg1
          have hg2' : h'.get 2 = some (.cells [.str (vT kd b pn 0 0), .str (vT kd b pn 0 1), .str (vT kd b pn 0 2)] .own) := hg2
          have hz := z70_st hg0 rfl ⟨⟨vT kd b pn 0 0, vT kd b pn 0 1, vT kd b pn 0 2⟩, v1, vN b p1 0 0, vN b p1 0 1, vN b p1 0 2⟩
          simp only at hz
          simp +contextual (maxSteps := 3000000) only [↓code_seq, ↓code_region, ↓code_cond, ↓code_exit, aCond_bool, ↓ops_nil, ↓ops_cons, run_none, ↓run0_v, ↓seqK_normal, ↓seqK_exit, put_same, ev_tmp, ev_const, oc_int, o_move, o_bin, g_none, bin_lss, decide_eq_true_eq, ↓reduceIte, e17, c1]
          refine hexit _ _ _ (by simp) ?_
          rw [hE]
          have f0 : (0 : Int) < ((3 : Nat) : Int) := by decide
          have f1 : (1 : Int) < ((3 : Nat) : Int) := by decide
          have f2 : (2 : Int) < ((3 : Nat) : Int) := by decide
          have f3 : (0 : Int) ≤ 2 := by decide
          have f4 : (2 : Int).toNat = 2 := rfl
          simp +contextual (maxSteps := 3000000) only [↓code_seq, ↓code_region, ↓code_ret, ↓ops_nil, ↓ops_cons, run_none, ↓run0_v, ↓run0_h, ↓seqK_normal, ↓blkK_exit, ↓retK_ret, put_same, put_ne, put_none, ev_tmp, ev_const, oc_int, o_move, o_assign, o_build, o_load, o_store, o_indexAddr, g_none, resultsOf, oneOrAll, Option.bind_some, Option.map_some, ↓reduceIte, Nat.reduceEqDiff, not_false_eq_true, Nat.reduceAdd, Nat.reduceMul, List.getElem?_cons_zero, List.getElem?_cons_succ, List.map_cons, List.map_nil, List.append_nil, List.nil_append, List.cons_append, and_true, Nat.reduceLeDiff, Nat.le_refl, ne_eq, z70, build_struct T70 d70, parts_eq, fillA, AV.cells, AH.splice, List.take_succ_cons, List.take_zero, List.drop_succ_cons, List.drop_zero, List.drop_nil, List.length_cons, List.length_nil, p70_0, p70_1, p70_2, p70_3, ia_arr T127 d127 T3, s3, run0_h, ia_arr T128 d128 T9, s9, load_p1 T9 a9, loadc_def, build_struct T48 d48, z48, p48_0, p48_1, p48_2, load_p1 T3 a3, build_struct T68 d68, z68, p68_0, p68_1, run0_h, List.length_cons, List.length_nil, List.drop_zero, List.take_succ_cons, List.take_zero, List.drop_succ_cons, Nat.add_zero, e1, e6, e9, e11, e16, hg1', hg2', hz, ld70, z0, one0, le0, le1, f0, f1, f2, f3, f4]
          exact ⟨_, rfl⟩
      · refine ⟨0, pn, by omega, ?_, ?_, ?_, ?_, ?_, ?_, ?_, ?_, ?_, ?_, ?_, ?_, ?_, ?_, ?_, ?_⟩
        · omega
        · rfl
        · (rw [hpn]; exact hq)
        · (rw [AH.get_alloc, if_neg (by omega)]; exact hg0)
        · (rw [AH.get_alloc, if_neg (by omega)]; exact hg1)
        · (rw [AH.get_alloc, if_pos hnx.symm]; rfl)
        · simp only [put_ne, not_false_eq_true, reduceCtorEq, ne_eq, e0]
        · simp only [put_ne, Nat.reduceEqDiff, not_false_eq_true, ne_eq, e1, hpn]
        · simp only [put_ne, Nat.reduceEqDiff, not_false_eq_true, ne_eq, e2]
        · simp only [put_ne, Nat.reduceEqDiff, not_false_eq_true, ne_eq, e6]
        · simp only [put_ne, Nat.reduceEqDiff, not_false_eq_true, ne_eq, e7]
        · simp only [put_ne, Nat.reduceEqDiff, not_false_eq_true, ne_eq, e8]
        · simp only [put_ne, Nat.reduceEqDiff, not_false_eq_true, ne_eq, e9]
        · simp only [put_ne, Nat.reduceEqDiff, not_false_eq_true, ne_eq, e11]
        · simp only [put_same, put_ne, Nat.reduceEqDiff, not_false_eq_true, ne_eq]
        · simp only [put_same]; rfl
  · refine ⟨0, p1, 0, by omega, ?_, ?_, ?_, ?_, ?_, ?_, ?_, ?_, ?_, ?_, ?_, ?_, ?_, ?_, ?_, ?_⟩
    · omega
    · rfl
    · exact o1
    · (simp [AH.get_alloc, next_e0, AH.next_alloc])
    · (simp [AH.get_alloc, next_e0, AH.next_alloc, arN])
    · rfl
    · rfl
    · simp only [put_ne, env0_at, Option.getD_some, not_false_eq_true, reduceCtorEq, List.getElem?_cons_zero, ne_eq]
    · simp only [put_same, put_ne, Nat.reduceEqDiff, not_false_eq_true, ne_eq]
    · simp only [put_ne, env0_at, Option.getD_some, Nat.reduceEqDiff, not_false_eq_true, Nat.succ_ne_self, List.getElem?_cons_zero, List.getElem?_cons_succ, ne_eq]
    · simp only [put_same, put_ne, Nat.reduceEqDiff, not_false_eq_true, ne_eq]
    · simp only [put_same, put_ne, Nat.reduceEqDiff, not_false_eq_true, ne_eq]
    · simp only [put_same, put_ne, Nat.reduceEqDiff, not_false_eq_true, ne_eq]
    · simp only [put_same, put_ne, Nat.reduceEqDiff, not_false_eq_true, ne_eq]
    · simp only [put_same, put_ne, Nat.reduceEqDiff, not_false_eq_true, ne_eq]
    · simp only [put_same]; rfl
end Go.AM.X.P
