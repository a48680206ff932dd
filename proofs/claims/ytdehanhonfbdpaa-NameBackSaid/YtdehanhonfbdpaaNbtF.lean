/- Packets, put: the program. Own work. -/
import Derived.Test.YtdehanhonfbdpaaNbtE
namespace Go.AM.X.P
open Go Go.AM Go.Proofs Go.AM.Sx Go.AM.X
set_option maxHeartbeats 1600000
set_option maxRecDepth 100000
set_option linter.unusedVariables false
theorem F38 : F 38 = some { body := (Try.f38.body.getD .skip), results := Try.f38.results.toList, rf := false } := by kernel_rfl
theorem R38 : regsOk T (Try.f38.body.getD .skip) = true := by kernel_rfl
def five (x : Nm) : List UInt8 := be2 x.net ++ [UInt8.ofNat x.node.toNat, UInt8.ofNat x.sock.toNat, UInt8.ofNat x.enum.toNat]
def txs (x : Nm) : List (List UInt8) := [x.name.o, x.name.t, x.name.z]
def ent (x : Nm) : List UInt8 := five x ++ (txs x).flatMap putT
def hd (k id : Int) (n : Nat) : List UInt8 := [UInt8.ofNat (k.toNat * 16 + n), UInt8.ofNat id.toNat]
def pk (k id : Int) (n : Nat) (l : List Nm) : List UInt8 := hd k id n ++ l.flatMap ent
noncomputable def good (k id : Int) (l : List Nm) : Bool := within k 1 3 && within id 0 255 && within l.length 1 15 && l.all (isEnt k)
noncomputable def putN (k id : Int) (l : List Nm) : List UInt8 × Int := if good k id l = true then (pk k id l.length l, 0) else ([], 2)
def okNms (l : List Nm) : Prop := ∀ x ∈ l, okE x.name
theorem within_iff {n a b : Int} : within n a b = true ↔ a ≤ n ∧ n ≤ b := by simp [within]
theorem isPart_len {s : List UInt8} (h : isPart s = true) : isTx s := by
  simpa [isPart, isTx] using h
theorem kind_pat {k : Int} {e : Ent} (h : isKind k e = true) : isPattern e = true := by
  unfold isKind isName at h
  split at h
  · simp only [Bool.and_eq_true] at h; exact h.1.1
  · exact h
structure Ok (k : Int) (x : Nm) : Prop where
  net : 0 ≤ x.net ∧ x.net ≤ 65279
  node : 0 ≤ x.node ∧ x.node ≤ 255
  sock : 1 ≤ x.sock ∧ x.sock ≤ 254
  enum : 0 ≤ x.enum ∧ x.enum ≤ 255
  o : isTx x.name.o
  t : isTx x.name.t
  z : isTx x.name.z
theorem ok_ent {k : Int} {x : Nm} (h : isEnt k x = true) : Ok k x := by
  unfold isEnt at h
  simp only [Bool.and_eq_true, within_iff] at h
  obtain ⟨⟨⟨⟨h1, h2⟩, h3⟩, h4⟩, h5⟩ := h
  have hp := kind_pat h5
  simp only [isPattern, Bool.and_eq_true] at hp
  exact ⟨h1, h2, h3, h4, isPart_len hp.1.1, isPart_len hp.1.2, isPart_len hp.2⟩
theorem putT_len (s : List UInt8) : (putT s).length = s.length + 1 := by simp [putT]
theorem five_len (x : Nm) : (five x).length = 5 := rfl
theorem ent_len {k : Int} {x : Nm} (h : Ok k x) : (ent x).length ≤ 101 := by
  have h1 := h.o.2
  have h2 := h.t.2
  have h3 := h.z.2
  simp only [ent, txs, List.length_append, List.flatMap_cons, List.flatMap_nil, putT_len, five_len, List.length_nil]
  omega
theorem pk_len {k id : Int} {n : Nat} : ∀ {l : List Nm}, (∀ x ∈ l, isEnt k x = true) → (pk k id n l).length ≤ 2 + 101 * l.length
  | [], _ => by simp [pk, hd]
  | x :: l, h => by
    have h1 := ent_len (ok_ent (h x (by simp)))
    have h2 := pk_len (id := id) (n := n) (l := l) fun y hy => h y (by simp [hy])
    simp only [pk, List.length_append, List.flatMap_cons, List.length_cons] at h2 ⊢
    omega
theorem five_eq {k : Int} {x : Nm} (h : Ok k x) : ofBytes (five x) = [.int .u8 ((x.net.toNat / 256 : Nat) : Int), .int .u8 ((x.net.toNat % 256 : Nat) : Int), .int .u8 ((x.node.toNat : Nat) : Int), .int .u8 ((x.sock.toNat : Nat) : Int), .int .u8 ((x.enum.toNat : Nat) : Int)] := by
  have a1 := h.net
  have a2 := h.node
  have a3 := h.sock
  have a4 := h.enum
  have h1 : (UInt8.ofNat (x.net.toNat / 256)).toNat = x.net.toNat / 256 := toNat_ofNat (by omega)
  have h2 : (UInt8.ofNat (x.net.toNat % 256)).toNat = x.net.toNat % 256 := toNat_ofNat (by omega)
  have h3 : (UInt8.ofNat x.node.toNat).toNat = x.node.toNat := toNat_ofNat (by omega)
  have h4 : (UInt8.ofNat x.sock.toNat).toNat = x.sock.toNat := toNat_ofNat (by omega)
  have h5 : (UInt8.ofNat x.enum.toNat).toNat = x.enum.toNat := toNat_ofNat (by omega)
  simp only [five, be2, ofBytes, List.cons_append, List.nil_append, List.map_cons, List.map_nil, h1, h2, h3, h4, h5]
theorem hd_eq {k id : Int} {n : Nat} (h1 : 1 ≤ k ∧ k ≤ 3) (h2 : 0 ≤ id ∧ id ≤ 255) (h3 : n ≤ 15) : ofBytes (hd k id n) = [.int .u8 ((k.toNat * 16 + n : Nat) : Int), .int .u8 ((id.toNat : Nat) : Int)] := by
  have e1 : (UInt8.ofNat (k.toNat * 16 + n)).toNat = k.toNat * 16 + n := toNat_ofNat (by omega)
  have e2 : (UInt8.ofNat id.toNat).toNat = id.toNat := toNat_ofNat (by omega)
  simp only [hd, ofBytes, List.map_cons, List.map_nil, e1, e2]
theorem ltE {h : AH} {v : AV} {n : Nat} {cs : List AV} (hr : RowE 1 h v n cs) {b o l k z : Nat} {x : Bool} (hv : v = .sl b o l k z x) : b < h.next := by
  rcases hr with hr | ⟨b', rfl, h1, h2', h3, h4⟩
  · exact hr.lt hv
  · cases hv; exact h3
theorem appB {h : AH} {v : AV} {base : List UInt8} (hr : RowE 1 h v base.length (ofBytes base)) (new : List UInt8) {x : AV} (hs : aSource 1 x h = some (new.length, ofBytes new)) (hp : 0 < new.length) (hsm : base.length + new.length < 100000) :
    ∃ b h2, aAppend T 25 25 v x h = some (.sl b 0 (base.length + new.length) (base.length + new.length) 1 false, h2) ∧ RowE 1 h2 (.sl b 0 (base.length + new.length) (base.length + new.length) 1 false) (base ++ new).length (ofBytes (base ++ new)) ∧
      h.next ≤ b ∧ b < h2.next ∧ (∀ c, c < h.next → offRow v c → h2.get c = h.get c) := by
  obtain ⟨b, h2, e1, e2, e3, e4, e5⟩ := hr.app T25 d25 T5 (isSrc_sl T25 d25) s5 (by rw [b5]; decide) (m := new.length) (new := ofBytes new) (x := x) (by rw [s5]; exact hs) hp (by simp [ofBytes]) (ofBytes_one _) (by rw [b5]; unfold maxBytes; omega)
  have e6 : RowE 1 h2 (.sl b 0 (base.length + new.length) (base.length + new.length) 1 false) (base ++ new).length (ofBytes (base ++ new)) := by
    rw [List.length_append, ← ofBytes_app]; exact .inl e2
  exact ⟨b, h2, e1, e6, e4, ltE e6 rfl, e5⟩
theorem alloc_put (h : AH) (x y : AB) : (h.alloc x).put h.next y = h.alloc y := by
  simp only [AH.alloc, AH.put, PT.set, setF_setF]
def z70l : List AV := [.str [], .str [], .str [], .int .i64 0, .int .i64 0, .int .i64 0, .int .i64 0]
theorem st70 (h : AH) (x : Nm) : aStore T 70 (.ptr h.next 0) (.agg [.str x.name.o, .str x.name.t, .str x.name.z, .int .i64 x.net, .int .i64 x.node, .int .i64 x.sock, .int .i64 x.enum]) (h.alloc (.cells [.str [], .str [], .str [], .int .i64 0, .int .i64 0, .int .i64 0, .int .i64 0] .own))
    = some (h.alloc (.cells x.cells .own)) := by
  rw [store_n (cs := z70l) (vs := x.cells) T70 rfl (by rw [s70]; rfl) rfl (by rw [AH.get_alloc, if_pos rfl]; rfl) (by simp [Nm.cells, z70l]), alloc_put]
  rfl
theorem len7 (x : Nm) (r : List AV) : (7 ≤ (AV.str x.name.o :: AV.str x.name.t :: AV.str x.name.z :: AV.int .i64 x.net :: AV.int .i64 x.node :: AV.int .i64 x.sock :: AV.int .i64 x.enum :: r).length) = True := by
  simp
theorem isTx_lt {k : Int} {x : Nm} (h : Ok k x) {j : Nat} (hj : j < 3) : ∃ s, (txs x)[j]? = some s ∧ isTx s := by
  match j, hj with
  | 0, _ => exact ⟨_, rfl, h.o⟩
  | 1, _ => exact ⟨_, rfl, h.t⟩
  | 2, _ => exact ⟨_, rfl, h.z⟩
theorem tx_at {x : Nm} {j : Nat} {s : List UInt8} (h : (txs x)[j]? = some s) : ([AV.str x.name.o, .str x.name.t, .str x.name.z] : List AV)[0 + j * 1]? = some (.str s) := by
  have : ([AV.str x.name.o, .str x.name.t, .str x.name.z] : List AV) = (txs x).map AV.str := rfl
  rw [this, show 0 + j * 1 = j by omega, List.getElem?_map, h]; rfl
theorem take_tx {x : Nm} {j : Nat} {s : List UInt8} (h : (txs x)[j]? = some s) : ((txs x).take (j + 1)).flatMap putT = ((txs x).take j).flatMap putT ++ putT s := by
  obtain ⟨h1, h2⟩ := List.getElem?_eq_some_iff.1 h
  rw [take_snoc h1, List.flatMap_append, List.flatMap_singleton, h2]
theorem tx_len {k : Int} {x : Nm} (h : Ok k x) (j : Nat) : (((txs x).take j).flatMap putT).length ≤ 96 := by
  have h1 := h.o.2
  have h2 := h.t.2
  have h3 := h.z.2
  match j with
  | 0 => simp
  | 1 => simp [txs, putT_len]; omega
  | 2 => simp [txs, putT_len]; omega
  | j + 3 => simp [txs, putT_len]; omega
theorem src_new {h : AH} (bs : List UInt8) {n b : Nat} (hn : bs.length = n) {ex : Bool} {kd : BK} (hb : h.get b = some (.cells (ofBytes bs) kd)) : aSource 1 (.sl b 0 n n 1 ex) h = some (bs.length, ofBytes bs) := by
  subst hn
  rw [src_sl, loadn_def, hb]
  simp only [Nat.zero_add, Nat.mul_one, ofBytes_len, Nat.le_refl, if_true, List.drop_zero, Option.map_some]
  rw [List.take_of_length_le (by rw [ofBytes_len]; omega)]
theorem run38 {I : Nat → Option (List AV → AH → Rs)} (h79 : I 79 = none) (h80 : I 80 = some (pureG g80)) (h81 : I 81 = some (pureG g81)) (h38 : I 38 = none) (kd id : Int) (l : List Nm) (m : Nat) (hl : okNms l) (hlen : l.length < 140737488355328) : PB (putN kd id l) (call F I T (m + 60) 38 [.int .i64 kd, .int .i64 id, .lst false 7 l.length (l.flatMap Nm.cells)] e0) := by
  rw [call_F (by decide) h38 F38 rfl R38]; simp only [Try.f38, Option.getD]
  cases q1 : within kd 1 3 with
  | false =>
    have hr : putN kd id l = ([], 2) := by simp [putN, good, q1]
    rw [hr]
    simp +contextual (maxSteps := 3000000) only [↓code_seq, ↓code_region, ↓code_cond, ↓code_ret, aCond_bool, ↓ops_nil, ↓ops_cons, run_none, run_someF, ↓run0_v, ↓run0_r, ↓seqK_normal, ↓seqK_ret, ↓retK_ret, put_same, put_ne, env0_at, ev_tmp, ev_const, ev_func, oc_int, oc_bool, oc_nils, o_move, o_assign, o_pick, o_call, o_len, o_un, g_none, g_some, pick_bool, un_not, resultsOf, oneOrAll, Option.bind_some, Option.map_some, Option.getD_some, ↓reduceIte, Nat.reduceEqDiff, not_false_eq_true, reduceCtorEq, List.getElem?_cons_zero, List.getElem?_cons_succ, List.getElem?_toArray, List.map_cons, List.map_nil, List.append_nil, List.nil_append, Bool.not_false, ne_eq, callV_fn (g := 79) (by decide), K79 h79, q1]
    exact ⟨_, _, rfl, .inl (Row.nil _ _)⟩
  | true =>
    cases q2 : within id 0 255 with
    | false =>
      have hr : putN kd id l = ([], 2) := by simp [putN, good, q2]
      rw [hr]
      simp +contextual (maxSteps := 3000000) only [↓code_seq, ↓code_region, ↓code_cond, ↓code_ret, aCond_bool, ↓ops_nil, ↓ops_cons, run_none, run_someF, ↓run0_v, ↓run0_r, ↓seqK_normal, ↓seqK_ret, ↓retK_ret, put_same, put_ne, env0_at, ev_tmp, ev_const, ev_func, oc_int, oc_bool, oc_nils, o_move, o_assign, o_pick, o_call, o_len, o_un, g_none, g_some, pick_bool, un_not, resultsOf, oneOrAll, Option.bind_some, Option.map_some, Option.getD_some, ↓reduceIte, Nat.reduceEqDiff, not_false_eq_true, reduceCtorEq, List.getElem?_cons_zero, List.getElem?_cons_succ, List.getElem?_toArray, Bool.false_eq_true, List.map_cons, List.map_nil, List.append_nil, List.nil_append, Bool.not_true, Bool.not_false, ne_eq, callV_fn (g := 79) (by decide), K79 h79, q1, q2]
      exact ⟨_, _, rfl, .inl (Row.nil _ _)⟩
    | true =>
      cases q3 : within l.length 1 15 with
      | false =>
        have hr : putN kd id l = ([], 2) := by simp [putN, good, q3]
        rw [hr]
        simp +contextual (maxSteps := 3000000) only [↓code_seq, ↓code_region, ↓code_cond, ↓code_ret, aCond_bool, ↓ops_nil, ↓ops_cons, run_none, run_someF, ↓run0_v, ↓run0_r, ↓seqK_normal, ↓seqK_ret, ↓retK_ret, put_same, put_ne, env0_at, ev_tmp, ev_const, ev_func, oc_int, oc_bool, oc_nils, o_move, o_assign, o_pick, o_call, o_len, o_un, g_none, g_some, pick_bool, un_not, resultsOf, oneOrAll, Option.bind_some, Option.map_some, Option.getD_some, ↓reduceIte, Nat.reduceEqDiff, not_false_eq_true, reduceCtorEq, List.getElem?_cons_zero, List.getElem?_cons_succ, List.getElem?_toArray, Bool.false_eq_true, List.map_cons, List.map_nil, List.append_nil, List.nil_append, Bool.not_true, Bool.not_false, ne_eq, len_lst T57 d57, callV_fn (g := 79) (by decide), K79 h79, q1, q2, q3]
        exact ⟨_, _, rfl, .inl (Row.nil _ _)⟩
      | true =>
        have k1 := within_iff.1 q1
        have k2 := within_iff.1 q2
        have k3 := within_iff.1 q3
        have w1 : IntKind.u8.wrap (IntKind.i64.wrap (IntKind.i64.wrap (kd * 2 ^ min (Int.toNat 4) IntKind.i64.bits) + (l.length : Int))) = ((kd.toNat * 16 + l.length : Nat) : Int) := by
          rw [show (2 : Int) ^ min (Int.toNat 4) IntKind.i64.bits = 16 from rfl, wrap_i64 (x := kd * 16) (by omega) (by omega), wrap_i64 (by omega) (by omega), wrap_u8 (by omega) (by omega)]; omega
        have w2 : IntKind.u8.wrap id = ((id.toNat : Nat) : Int) := by rw [wrap_u8 (by omega) (by omega)]; omega
        have hhd := hd_eq (k := kd) (id := id) (n := l.length) k1 k2 (by omega)
        simp +contextual (maxSteps := 3000000) only [↓code_skip, ↓code_seq, ↓code_region, ↓code_cond, ↓code_block, ↓code_loop, aCond_bool, ↓ops_nil, ↓ops_cons, run_none, run_someF, ↓run0_v, ↓run0_r, ↓seqK_normal, put_same, put_ne, env0_at, ev_tmp, ev_const, ev_func, oc_int, oc_bool, oc_nils, o_move, o_assign, o_pick, o_bin, o_call, o_len, o_buildSlice, o_un, o_convert, g_none, g_some, pick_bool, bin_add, bin_shl, un_not, next_e0, Option.bind_some, Option.getD_some, ↓reduceIte, Nat.reduceEqDiff, not_false_eq_true, Nat.reduceAdd, Nat.reduceMul, reduceCtorEq, List.getElem?_cons_zero, List.getElem?_cons_succ, List.getElem?_toArray, Bool.false_eq_true, List.map_cons, List.map_nil, List.append_nil, List.nil_append, List.cons_append, and_true, Nat.reduceLeDiff, Nat.le_refl, Bool.not_true, ne_eq, len_lst T57 d57, conv_int T3 T5 d5, buildSl T25 d25 T5 (n := 2) (by rw [s5]; decide), s5, z5, parts_eq, fillA, AV.cells, AH.splice, List.take_succ_cons, List.take_zero, List.drop_succ_cons, List.drop_zero, List.drop_nil, List.length_cons, List.length_nil, repl, callV_fn (g := 79) (by decide), K79 h79, q1, q2, q3, w1, w2, show ¬ ((4 : Int) < 0) by decide]
        refine iterL_wp (Q := fun r => PB (putN kd id l) r) (N := l.length) (Inv := fun k e h' => ∃ i v, k + i = l.length ∧ i ≤ l.length ∧ RowE 1 h' v (pk kd id l.length (l.take i)).length (ofBytes (pk kd id l.length (l.take i))) ∧ (l.take i).all (isEnt kd) = true ∧ e 0 = .int .i64 kd ∧ e 8 = v ∧ e 38 = .lst false 7 l.length (l.flatMap Nm.cells) ∧ e 39 = .int .i64 l.length ∧ e 40 = .int .i64 (i : Nat)) ?_ ?_ (by omega)
        · rintro k e h' K' ⟨i, v, hk, hil, hrow, hall, e0, e8, e38, e39, e40⟩ hnext hexit
          by_cases hi : i < l.length
          · have c2 : (i : Int) < (l.length : Int) := by omega
            obtain ⟨x, hx⟩ : ∃ x, x = l[i] := ⟨_, rfl⟩
            obtain ⟨rest, hrest⟩ : ∃ r, r = (l.drop (i + 1)).flatMap Nm.cells := ⟨_, rfl⟩
            have c3 : (l.flatMap Nm.cells).drop (i * 7) = AV.str x.name.o :: AV.str x.name.t :: AV.str x.name.z :: AV.int .i64 x.net :: AV.int .i64 x.node :: AV.int .i64 x.sock :: AV.int .i64 x.enum :: rest := by
              rw [drop_nms hi, ← hx, ← hrest]; rfl
            have c4 := len7 x rest
            have hox : okE x.name := hl x (by rw [hx]; exact List.getElem_mem hi)
            have hst := st70 h' x
            cases q4 : isEnt kd x with
            | false =>
              have hr : putN kd id l = ([], 2) := by
                have : l.all (isEnt kd) = false := List.all_eq_false.2 ⟨x, by rw [hx]; exact List.getElem_mem hi, by simp [q4]⟩
                simp [putN, good, this]
              simp +contextual (maxSteps := 3000000) only [↓code_skip, ↓code_seq, ↓code_region, ↓code_cond, ↓code_block, ↓code_ret, aCond_bool, ↓ops_nil, ↓ops_cons, run_none, ↓run0_v, ↓run0_h, ↓run0_r, ↓seqK_normal, ↓seqK_ret, ↓blkK_ret, put_same, put_ne, put_none, ev_tmp, ev_const, ev_func, oc_int, oc_nils, o_move, o_assign, o_bin, o_call, o_alloc, o_load, o_store, o_un, o_indexAddr, g_none, bin_lss, un_not, Option.map_some, decide_eq_true_eq, ↓reduceIte, Nat.reduceEqDiff, not_false_eq_true, Nat.reduceAdd, reduceCtorEq, List.map_cons, List.map_nil, List.append_nil, List.nil_append, AH.get_alloc, and_true, Nat.reduceLeDiff, Nat.le_refl, Bool.not_false, ne_eq, List.take_succ_cons, List.take_zero, List.take_nil, List.drop_zero, List.length_cons, List.length_nil, ia_lst T57 d57 T70 s70, load_fpA T70 a70, load_pA T70 a70, s70, loadn_def, alloc_t T70, z70, callV_fn (g := 80) (by decide), K80 h80, e0, e38, e39, e40, c2, c3, hox, hst, q4, run0_h, loadn_def, Nm.cells, cast_nonneg, toNat_cast, List.length_cons, List.length_nil, List.drop_zero, List.take_succ_cons, List.take_zero, List.take_nil]
              refine hexit _ _ _ (by simp) ?_
              simp +contextual (maxSteps := 3000000) only [↓seqK_ret, ↓blkK_ret, ↓retK_ret, put_same, put_ne, resultsOf, oneOrAll, Option.map_some, Nat.reduceEqDiff, not_false_eq_true, ne_eq]
              rw [hr]
              exact ⟨_, _, rfl, .inl (Row.nil _ _)⟩
            | true =>
              have hok := ok_ent q4
              obtain ⟨y1, y2, y3, y4, _, _, _⟩ := (show Ok kd x from hok)
              have w3 : IntKind.u8.wrap (x.net.fdiv (2 ^ min (Int.toNat 8) IntKind.i64.bits)) = ((x.net.toNat / 256 : Nat) : Int) := by
                rw [show (2 : Int) ^ min (Int.toNat 8) IntKind.i64.bits = 256 from rfl, Int.fdiv_eq_ediv_of_nonneg _ (by decide), wrap_u8 (by omega) (by omega)]; omega
              have w4 : IntKind.u8.wrap x.net = ((x.net.toNat % 256 : Nat) : Int) := by
                simp only [IntKind.wrap, IntKind.bits, IntKind.signed]
                simp
                omega
              have w5 : IntKind.u8.wrap x.node = ((x.node.toNat : Nat) : Int) := by rw [wrap_u8 (by omega) (by omega)]; omega
              have w6 : IntKind.u8.wrap x.sock = ((x.sock.toNat : Nat) : Int) := by rw [wrap_u8 (by omega) (by omega)]; omega
              have w7 : IntKind.u8.wrap x.enum = ((x.enum.toNat : Nat) : Int) := by rw [wrap_u8 (by omega) (by omega)]; omega
              have hf := five_eq hok
              have hpl := pk_len (id := id) (n := l.length) (fun y hy => List.all_eq_true.1 hall y hy)
              have hlt : (l.take i).length = i := by simp; omega
              rw [hlt] at hpl
              obtain ⟨bb, h2, happ, hrow2, hn1, hn2, hkeep⟩ := appB (allocE (allocE hrow (.cells x.cells .own)) (.cells (ofBytes (five x)) .own)) (five x) (x := .sl (h'.next + 1) 0 5 5 1 true)
                (src_new (five x) (five_len x) (kd := .own) (by rw [AH.get_alloc, if_pos (by simp)])) (by rw [five_len]; decide) (by rw [five_len]; omega)
              have hg10 : h2.get h'.next = some (.cells x.cells .own) := by
                rw [hkeep _ (by simp; omega) (fun b o l k z y hv => by have := ltE hrow hv; omega), AH.get_alloc, if_neg (by simp), AH.get_alloc, if_pos rfl]
              rw [hf] at happ
              simp only [Nm.cells] at hg10 happ
              simp +contextual (maxSteps := 3000000) only [↓code_skip, ↓code_seq, ↓code_region, ↓code_cond, ↓code_block, ↓code_loop, aCond_bool, ↓ops_nil, ↓ops_cons, run_none, ↓run0_v, ↓run0_h, ↓run0_r, ↓seqK_normal, put_same, put_ne, put_none, ev_tmp, ev_const, ev_func, oc_int, o_move, o_assign, o_bin, o_call, o_len, o_alloc, o_buildSlice, o_load, o_store, o_un, o_convert, o_fieldAddr, o_indexAddr, o_append, g_none, bin_lss, bin_shr, un_not, Option.bind_some, Option.map_some, decide_eq_true_eq, ↓reduceIte, Nat.reduceEqDiff, not_false_eq_true, Nat.reduceAdd, Nat.reduceMul, reduceCtorEq, List.getElem?_cons_zero, List.getElem?_cons_succ, Bool.false_eq_true, List.map_cons, List.map_nil, List.append_nil, List.nil_append, List.cons_append, AH.get_alloc, AH.next_alloc, and_true, Nat.reduceLeDiff, Nat.le_refl, Bool.not_true, ne_eq, conv_int T3 T5 d5, s5, z5, parts_eq, fillA, AV.cells, AH.splice, List.take_succ_cons, List.take_zero, List.take_nil, List.drop_succ_cons, List.drop_zero, List.drop_nil, List.length_cons, List.length_nil, repl, ia_lst T57 d57 T70 s70, load_fpA T70 a70, load_pA T70 a70, s70, loadn_def, alloc_t T70, z70, fa_ptr T70 p70_1 (by decide), fa_ptr T68 p68_0 (by decide), load_p1 T3 a3, loadc_def, fa_ptr T68 p68_1 (by decide), fa_ptr T70 p70_2 (by decide), fa_ptr T70 p70_3 (by decide), buildSl T25 d25 T5 (n := 5) (by rw [s5]; decide), fa_ptr T70 p70_0 (by decide), fa_ptr T48 p48_0 (by decide), load_p1 T9 a9, fa_ptr T48 p48_1 (by decide), fa_ptr T48 p48_2 (by decide), buildSl T23 d23 T9 (n := 3) (by rw [s9]; decide), s9, z9, len_sl T23 d23, callV_fn (g := 80) (by decide), K80 h80, e0, e8, e38, e39, e40, c2, c3, hox, hst, q4, w3, w4, w5, w6, w7, happ, hg10, run0_h, loadn_def, Nm.cells, cast_nonneg, toNat_cast, List.length_cons, List.length_nil, List.drop_zero, List.take_succ_cons, List.take_zero, List.take_nil, Nat.add_zero, show ¬ ((8 : Int) < 0) by decide]
              have hnext0 := hnext
              have hexit0 := hexit
              obtain ⟨k0, hk0⟩ : ∃ k0, k0 = k := ⟨k, rfl⟩
              obtain ⟨base, hbase⟩ : ∃ b, b = pk kd id l.length (l.take i) ++ five x := ⟨_, rfl⟩
              have hbl : base.length ≤ 2 + 101 * i + 5 := by rw [hbase, List.length_append, five_len]; omega
              refine iterL_wp (Q := fun r => PB (putN kd id l) r) (N := 3) (Inv := fun k e h' => ∃ j u, k + j = 3 ∧ j ≤ 3 ∧ RowE 1 h' u (base ++ ((txs x).take j).flatMap putT).length (ofBytes (base ++ ((txs x).take j).flatMap putT)) ∧ h'.get h2.next = some (.cells [.str x.name.o, .str x.name.t, .str x.name.z] .own) ∧ h2.next < h'.next ∧ offRow u h2.next ∧ e 0 = .int .i64 kd ∧ e 8 = u ∧ e 38 = .lst false 7 l.length (l.flatMap Nm.cells) ∧ e 39 = .int .i64 l.length ∧ e 40 = .int .i64 (i : Nat) ∧ e 79 = .sl h2.next 0 3 3 1 true ∧ e 80 = .int .i64 3 ∧ e 81 = .int .i64 (j : Nat)) ?_ ?_ (by omega)
              · rintro k e h' K' ⟨j, u, hk, hj, hrw, hgt, hnx, hoff, e0, e8, e38, e39, e40, e79, e80, e81⟩ hnext hexit
                by_cases hj3 : j < 3
                · have c7 : (j : Int) < 3 := by omega
                  have c7b : (j : Int) < ((3 : Nat) : Int) := by omega
                  obtain ⟨s, hs1, hs2⟩ := isTx_lt hok hj3
                  have c8 := tx_at hs1
                  have c9 := take_tx hs1
                  have hs2' := hs2.2
                  have hsl := putT_len s
                  have htl := tx_len hok j
                  obtain ⟨cc, h3, happ3, hrow3, hm1, hm2, hkeep3⟩ := appB hrw (putT s) (x := .lst false 1 (putT s).length (ofBytes (putT s))) src_lst1 (by omega) (by rw [List.length_append]; omega)
                  rw [List.append_assoc, ← c9] at hrow3
                  have hg3 : h3.get h2.next = some (.cells [.str x.name.o, .str x.name.t, .str x.name.z] .own) := by rw [hkeep3 _ hnx hoff, hgt]
                  have c6 : IntKind.i64.wrap ((j : Int) + 1) = ((j + 1 : Nat) : Int) := by rw [wrap_i64 (by omega) (by omega)]; omega
                  simp +contextual (maxSteps := 3000000) only [↓code_skip, ↓code_seq, ↓code_region, ↓code_cond, ↓code_block, aCond_bool, ↓ops_nil, ↓ops_cons, run_none, ↓run0_v, ↓run0_r, ↓seqK_normal, ↓blkK_normal, put_same, put_ne, ev_tmp, ev_const, ev_func, oc_int, o_move, o_assign, o_bin, o_call, o_load, o_indexAddr, o_extract, o_append, g_none, bin_add, bin_lss, extract_tup, decide_eq_true_eq, ↓reduceIte, Nat.reduceEqDiff, not_false_eq_true, List.getElem?_cons_zero, List.getElem?_cons_succ, List.map_cons, List.map_nil, List.append_nil, List.nil_append, and_true, ne_eq, loadc_def, load_p1 T9 a9, ia_sl T23 d23 T9 s9, callV_fn (g := 81) (by decide), K81 h81, e8, e79, e80, e81, c7, c7b, c8, hgt, hs2, happ3, cast_nonneg, toNat_cast]
                  refine hnext (k - 1) _ _ (by omega) ⟨j + 1, .sl cc 0 ((base ++ ((txs x).take j).flatMap putT).length + (putT s).length) ((base ++ ((txs x).take j).flatMap putT).length + (putT s).length) 1 false, by omega, ?_, ?_, ?_, ?_, ?_, ?_, ?_, ?_, ?_, ?_, ?_, ?_, ?_⟩
                  · omega
                  · exact hrow3
                  · exact hg3
                  · omega
                  · (intro b o l k z y hv; cases hv; omega)
                  · simp only [put_ne, not_false_eq_true, reduceCtorEq, ne_eq, e0]
                  · simp only [put_same, put_ne, Nat.reduceEqDiff, not_false_eq_true, ne_eq]
                  · simp only [put_ne, Nat.reduceEqDiff, not_false_eq_true, ne_eq, e38]
                  · simp only [put_ne, Nat.reduceEqDiff, not_false_eq_true, ne_eq, e39]
                  · simp only [put_ne, Nat.reduceEqDiff, not_false_eq_true, ne_eq, e40]
                  · simp only [put_ne, Nat.reduceEqDiff, not_false_eq_true, ne_eq, e79]
                  · simp only [put_ne, Nat.reduceEqDiff, not_false_eq_true, ne_eq, e80]
                  · simp only [put_same]; rw [c6]
                · have c7 : ¬ (j : Int) < 3 := by omega
                  have hjj : j = 3 := by omega
                  subst hjj
                  have c6 : IntKind.i64.wrap ((i : Int) + 1) = ((i + 1 : Nat) : Int) := by rw [wrap_i64 (by omega) (by omega)]; omega
                  have hrow' : RowE 1 h' u (pk kd id l.length (l.take (i + 1))).length (ofBytes (pk kd id l.length (l.take (i + 1)))) := by
                    have : pk kd id l.length (l.take (i + 1)) = base ++ ((txs x).take 3).flatMap putT := by
                      rw [hbase, take_snoc hi, ← hx]
                      simp only [pk, ent, List.flatMap_append, List.flatMap_singleton, List.append_assoc]
                      rfl
                    rw [this]; exact hrw
                  simp +contextual (maxSteps := 3000000) only [↓code_seq, ↓code_region, ↓code_cond, ↓code_exit, aCond_bool, ↓ops_nil, ↓ops_cons, run_none, ↓run0_v, ↓seqK_normal, ↓seqK_exit, put_same, ev_tmp, o_bin, g_none, bin_lss, decide_eq_true_eq, ↓reduceIte, e80, e81, c7]
                  refine hexit _ _ _ (by simp) ?_
                  simp +contextual (maxSteps := 3000000) only [↓code_region, ↓ops_nil, ↓ops_cons, run_none, ↓run0_v, ↓seqK_normal, ↓blkK_normal, ↓blkK_exit, put_same, put_ne, ev_tmp, ev_const, oc_int, o_move, o_bin, g_none, bin_add, ↓reduceIte, Nat.reduceEqDiff, not_false_eq_true, ne_eq, e40, c6]
                  refine hnext0 (k0 - 1) _ _ (by omega) ⟨i + 1, u, by omega, by omega, hrow', ?_, ?_, ?_, ?_, ?_, ?_⟩
                  · rw [take_snoc hi, List.all_append, hall, ← hx]; simp [q4]
                  · simp only [put_ne, not_false_eq_true, reduceCtorEq, ne_eq, e0]
                  · simp only [put_ne, Nat.reduceEqDiff, not_false_eq_true, ne_eq, e8]
                  · simp only [put_ne, Nat.reduceEqDiff, not_false_eq_true, ne_eq, e38]
                  · simp only [put_ne, Nat.reduceEqDiff, not_false_eq_true, ne_eq, e39]
                  · simp only [put_same]
              · refine ⟨0, .sl bb 0 ((pk kd id l.length (l.take i)).length + (five x).length) ((pk kd id l.length (l.take i)).length + (five x).length) 1 false, by omega, ?_, ?_, ?_, ?_, ?_, ?_, ?_, ?_, ?_, ?_, ?_, ?_, ?_⟩
                · omega
                · (rw [List.take_zero, List.flatMap_nil, List.append_nil, hbase]; exact allocE hrow2 _)
                · (rw [AH.get_alloc, if_pos rfl])
                · (simp)
                · (intro b o l k z y hv; cases hv; omega)
                · simp only [put_ne, not_false_eq_true, reduceCtorEq, ne_eq, e0]
                · simp only [put_same, put_ne, Nat.reduceEqDiff, not_false_eq_true, ne_eq]
                · simp only [put_ne, Nat.reduceEqDiff, not_false_eq_true, ne_eq, e38]
                · simp only [put_ne, Nat.reduceEqDiff, not_false_eq_true, ne_eq, e39]
                · simp only [put_ne, Nat.reduceEqDiff, not_false_eq_true, ne_eq, e40]
                · simp only [put_same, put_ne, Nat.reduceEqDiff, not_false_eq_true, ne_eq]
                · simp only [put_same, put_ne, Nat.reduceEqDiff, not_false_eq_true, ne_eq]; rfl
                · simp only [put_same]; rfl
          · have c2 : ¬ (i : Int) < (l.length : Int) := by omega
            rw [take_end (show i = l.length by omega)] at hrow hall
            have hr : putN kd id l = (pk kd id l.length l, 0) := by simp [putN, good, q1, q2, q3, hall]
            simp +contextual (maxSteps := 3000000) only [↓code_seq, ↓code_region, ↓code_cond, ↓code_exit, aCond_bool, ↓ops_nil, ↓ops_cons, run_none, ↓run0_v, ↓seqK_normal, ↓seqK_exit, put_same, ev_tmp, o_bin, g_none, bin_lss, decide_eq_true_eq, ↓reduceIte, e39, e40, c2]
            refine hexit _ _ _ (by simp) ?_
            simp +contextual (maxSteps := 3000000) only [↓code_seq, ↓code_region, ↓code_ret, ↓ops_nil, ↓ops_cons, run_none, ↓run0_v, ↓seqK_normal, ↓blkK_exit, ↓retK_ret, put_same, put_ne, ev_tmp, ev_const, oc_int, o_move, o_assign, g_none, resultsOf, oneOrAll, Option.map_some, ↓reduceIte, Nat.reduceEqDiff, not_false_eq_true, ne_eq, e8]
            rw [hr]
            exact ⟨_, _, rfl, hrow⟩
        · refine ⟨0, .sl 0 0 2 2 1 true, by omega, ?_, ?_, ?_, ?_, ?_, ?_, ?_, ?_⟩
          · omega
          · (simp only [List.take_zero, pk, List.flatMap_nil, List.append_nil, hhd]; exact RowE.lit (h := e0) (by decide) rfl)
          · rfl
          · simp only [put_ne, env0_at, Option.getD_some, not_false_eq_true, reduceCtorEq, List.getElem?_cons_zero, ne_eq]
          · simp only [put_same, put_ne, Nat.reduceEqDiff, not_false_eq_true, ne_eq]
          · simp only [put_same, put_ne, Nat.reduceEqDiff, not_false_eq_true, ne_eq]
          · simp only [put_same, put_ne, Nat.reduceEqDiff, not_false_eq_true, ne_eq]
          · simp only [put_same]; rfl
end Go.AM.X.P
namespace Go.AM.X.P
open Go Go.AM Go.Proofs Go.AM.Sx Go.AM.X
set_option maxHeartbeats 1600000
set_option maxRecDepth 100000
set_option linter.unusedVariables false
end Go.AM.X.P
namespace Go.AM.X.P
open Go Go.AM Go.Proofs Go.AM.Sx Go.AM.X
set_option maxHeartbeats 1600000
set_option maxRecDepth 100000
set_option linter.unusedVariables false
theorem finPB {g : List UInt8 × Int} {n f : Nat} {I : Nat → Option (List AV → AH → Rs)} {args : List AV} (hp : PB g (call F I T n f args e0)) :
    ∃ n k h1 v1 v0, call F I T n f args e0 = some (v1, h1) ∧ frzF false k h1 v1 = some v0 ∧ Wk v0 (.tup [.lst false 1 g.1.length (ofBytes g.1), .int .i64 g.2]) := by
  obtain ⟨h', v, h1, h2⟩ := hp
  obtain ⟨v0, h3, h4⟩ := h2.frz 1 (frz_bytes g.1) (by simp [ofBytes])
  exact ⟨_, _, _, _, _, h1, frz_tup1 h3, Wk.tup (WkL.cons h4 (WkL.cons (Wk.refl _) WkL.nil))⟩
noncomputable def gPut := open Classical in G3 (vInt .i64) (vInt .i64) vNms fun k id l => if okNms l ∧ l.length < 140737488355328 then some (.tup [.lst false 1 (putN k id l).1.length (ofBytes (putN k id l).1), .int .i64 (putN k id l).2]) else none
noncomputable def g38 := gPut
noncomputable def g39 := gPut
noncomputable def E1 := addI D10 108 (pureG g108)
noncomputable def E2 := addI E1 80 (pureG g80)
noncomputable def E3 := addI E2 82 (pureG g82)
noncomputable def E4 := addI E3 81 (pureG g81)
noncomputable def E5 := addI E4 38 (pureG g38)
noncomputable def E6 := addI E5 39 (pureG g39)
theorem gPut_eq {kd id : Int} {l : List Nm} (h1 : okNms l) (h2 : l.length < 140737488355328) : gPut [.int .i64 kd, .int .i64 id, .lst false 7 l.length (l.flatMap Nm.cells)] = some (.tup [.lst false 1 (putN kd id l).1.length (ofBytes (putN kd id l).1), .int .i64 (putN kd id l).2]) := by
  have q3 : vNms.dec (.lst false 7 l.length (l.flatMap Nm.cells)) = some l := dNms_enc l
  unfold gPut
  simp only [G3, q3, vInt, dInt, if_true, Option.bind_some, h1, h2, and_self]
theorem flat3 (kd id : Int) (l : List Nm) : flatL [.int .i64 kd, .int .i64 id, .lst false 7 l.length (l.flatMap Nm.cells)] = true := by
  have := flat_nms l
  simp [flatL, AV.flat, this]
theorem K38 {I : Nat → Option (List AV → AH → Rs)} (h38 : I 38 = some (pureG g38)) (m : Nat) (kd id : Int) (l : List Nm) (h : AH) (h1 : okNms l) (h2 : l.length < 140737488355328) :
    call F I T (m + 1) 38 [.int .i64 kd, .int .i64 id, .lst false 7 l.length (l.flatMap Nm.cells)] h = some (.tup [.lst false 1 (putN kd id l).1.length (ofBytes (putN kd id l).1), .int .i64 (putN kd id l).2], h) := by
  rw [call_I (by decide) h38]; exact pureG_flat (flat3 kd id l) (gPut_eq h1 h2)
theorem le_cast30 (a : Nat) : (30 < (a : Int)) = (30 < a) := by simp; omega
end Go.AM.X.P
