/- Pieces, gathered: the walk of the two loops. Own work. -/
import Derived.Test.YtdehanhonfbdpaaZbkH
namespace Go.AM.X.P
open Go Go.AM Go.Proofs Go.AM.Sx Go.AM.X
set_option maxHeartbeats 6400000
set_option maxRecDepth 100000
set_option linter.unusedVariables false
def Q37 (net : Int) (gs : List (List (List UInt8))) (r : Rs) : Prop :=
  ∃ h' v, r = some (.tup [.int .i64 net, v, .int .i64 0], h') ∧ Row 1 h' v (uni [] gs.flatten).length ((uni [] gs.flatten).map .str)
theorem K66v {I : Nat → Option (List AV → AH → Rs)} (h66 : I 66 = some (pureG g66)) (m : Nat) (l : List (List UInt8)) (s : List UInt8) (h : AH) (v : AV) (hv : Row 1 h v l.length (l.map .str)) (hl : small l) (hs : s.length < 140737488355327) : call F I T (m + 1) 66 [v, .str s] h = some (.bool (l.any (equal · s)), h) := by
  rcases hv with ⟨rfl, h1, h2⟩ | ⟨b, rfl, h1, h2, h3, h4⟩
  · have : l = [] := List.length_eq_zero_iff.1 h1
    subst this
    rw [call_I (by decide) h66]
    refine pureG_flat (by rfl) ?_
    have hd : (vList vStr).dec .nils = some [] := rfl
    have hd2 : vStr.dec (.str s) = some s := rfl
    unfold g66
    simp only [G2, hd, hd2, Option.bind_some]
    rw [if_pos ⟨hl, hs⟩]
  · rw [call_I (by decide) h66]
    have q1 : frzMap (frzF true 8 h) (l.map AV.str) = some (l.map .str) := frzMap_map (f := AV.str) fun _ => by simp [frzF, AV.flat]
    refine pureG_view (bs := [.lst false 1 l.length (l.map .str), .str s]) (by simp [flatL, AV.flat]) ?_ ?_ rfl
    · refine frzMap_cons ?_ (frzMap_cons (by simp [frzF, AV.flat]) frzMap_nil)
      exact frz_sl h4 (by simp) q1
    · have h1 := vList_dec (v := vStr) dStr_enc false l
      show ((vList vStr).dec (.lst false 1 l.length (l.map vStr.enc))).bind (fun x => _) = _
      have hd2 : vStr.dec (.str s) = some s := rfl
      simp only [h1, hd2, Option.bind_some]
      rw [if_pos ⟨hl, hs⟩]
theorem uni_small {gs : List (List (List UInt8))} (hg : okG gs) {a : List (List UInt8)} (ha : ∀ z ∈ a, isZone z = true) (hn : a.length ≤ 1000) : small (uni [] a) := by
  refine ⟨by have := uni_len [] a; simp at this; omega, fun x hx => ?_⟩
  rcases uni_mem hx with h | h
  · cases h
  · have := zone_len (ha x h); omega
theorem flat_le : ∀ {gs : List (List (List UInt8))}, (∀ g ∈ gs, g.length ≤ 3) → gs.flatten.length ≤ 3 * gs.length
  | [], _ => by simp
  | g :: gs, h => by
    have h1 := h g (by simp)
    have h2 := flat_le (gs := gs) fun x hx => h x (by simp [hx])
    simp only [List.flatten_cons, List.length_append, List.length_cons]; omega
theorem row_cells {h : AH} {v : AV} {n : Nat} {cs : List AV} (hr : Row 1 h v n cs) : v.cells = some [v] ∧ v.one = true := by
  rcases hr with ⟨rfl, _⟩ | ⟨b, rfl, _⟩ <;> exact ⟨rfl, rfl⟩
theorem run37 {I : Nat → Option (List AV → AH → Rs)} (h66 : I 66 = some (pureG g66)) (h68 : I 68 = none) (h51 : I 51 = none) (h102 : I 102 = some (pureG g102)) (h69 : I 69 = none) (h22 : I 22 = none) (h104 : I 104 = none) (h74 : I 74 = none) (h37 : I 37 = none) (net : Int) (tot : Nat) (gs : List (List (List UInt8))) (m : Nat) (hn : isNet net = true) (hto : 1 ≤ tot ∧ tot ≤ 40) (hg : okG gs) (hu : (uni [] gs.flatten).length = tot) :
    Q37 net gs (call F I T (m + 400) 37 [.lst false 1 gs.length ((bsOf net tot gs).map vB.enc)] e0) := by
  have hg0 := hg
  obtain ⟨g1, g2, g3⟩ := hg
  have x0 : ¬ ((gs.length : Int) = 0) := by omega
  rw [call_F (by decide) h37 F37 rfl R37]; simp only [Try.f37, Option.getD]
  simp +contextual (maxSteps := 3000000) only [↓code_skip, ↓code_seq, ↓code_region, ↓code_cond, ↓code_block, ↓code_loop, aCond_bool, ↓ops_nil, ↓ops_cons, run_none, ↓run0_v, ↓seqK_normal, put_same, put_ne, env0_at, ev_tmp, ev_const, oc_int, oc_nils, o_move, o_assign, o_bin, o_len, g_none, bin_eql, Option.getD_some, decide_eq_true_eq, ↓reduceIte, not_false_eq_true, reduceCtorEq, List.getElem?_cons_zero, ne_eq, len_lst T30 d30, x0]
  refine iterL_wp (Q := fun r => Q37 net gs r) (N := gs.length) (Inv := fun k e h' => ∃ i v w es, k + i = gs.length ∧ i ≤ gs.length ∧ Row 1 h' v (2 * i) (nets37 net tot i) ∧ Row 1 h' w i es ∧ ElsT h' w es (gs.take i) ∧ apart v w ∧ (∀ e ∈ es, apart v e) ∧ e 3 = .nils ∧ e 5 = v ∧ e 6 = w ∧ e 21 = .lst false 1 gs.length ((bsOf net tot gs).map vB.enc) ∧ e 22 = .int .i64 (gs.length : Nat) ∧ e 23 = .int .i64 (i : Nat)) ?_ ?_ (by omega)
  · rintro k e h' K' ⟨i, v, w, es, hk, hil, hv, hw, hels, hvw, hve, e3, e5, e6, e21, e22, e23⟩ hnext hexit
    by_cases hi : i < gs.length
    · have c1 : (i : Int) < (gs.length : Int) := by omega
      obtain ⟨g, hgg⟩ : ∃ g, g = gs[i] := ⟨_, rfl⟩
      obtain ⟨l1, l2, l3⟩ := g3 g (by rw [hgg]; exact List.getElem_mem hi)
      obtain ⟨b, hb⟩ : ∃ b, b = piece net tot g := ⟨_, rfl⟩
      have hbs : (bsOf net tot gs)[i]? = some b := by unfold bsOf; rw [List.getElem?_map, List.getElem?_eq_getElem hi, ← hgg, hb]; rfl
      have c2 : (List.drop (i * 1) ((bsOf net tot gs).map vB.enc))[0]? = some (.lst false 1 b.length (b.map vByte.enc)) := drop_map_0 (f := vB.enc) hbs
      have hbe := piece_eq net tot g
      rw [← hb] at hbe
      have hpl := pz_len (net := net) l3
      have hbl : b.length = 2 + (g.flatMap (pz net)).length := by rw [hbe]; simp [head2]; omega
      have hbL : b.length < 140737488355328 := by omega
      have hpp : 0 < (g.flatMap (pz net)).length := by
        obtain ⟨z, zs, rfl⟩ := List.exists_cons_of_length_pos l1
        have := pz_pos net z
        rw [List.flatMap_cons, List.length_append]; omega
      have hbeg := begin8 (tot := tot) ⟨by omega, by omega⟩ (g.flatMap (pz net))
      rw [← hbe] at hbeg
      have ha0 : At b 2 (g.flatMap (pz net)) := ⟨by omega, by rw [hbe]; rfl⟩
      have k68 : ∀ m, call F I T (m + 1) 68 [.ptr h'.next 0, .int .u8 8] (h'.alloc (rd false b 0 0)) = some (.int .i64 (tot : Nat), h'.alloc (rd false b 2 0)) := fun m => by
        have := K68 h68 m b false 8 h'.next (h'.alloc (rd false b 0 0)) (by rw [AH.get_alloc, if_pos rfl])
        rw [hbeg, alloc_put] at this
        exact this
      unfold rd at k68
      have c3 : ¬ ((2 : Int) = (b.length : Int)) := by omega
      simp +contextual (maxSteps := 3000000) only [↓code_skip, ↓code_seq, ↓code_region, ↓code_cond, ↓code_block, ↓code_loop, aCond_bool, ↓ops_nil, ↓ops_cons, run_none, run_someT, ↓run0_v, ↓run0_r, ↓seqK_normal, put_same, put_ne, ev_tmp, ev_const, ev_func, oc_int, oc_bool, oc_nils, o_move, o_assign, o_pick, o_bin, o_call, o_len, o_box, o_build, o_load, o_nilCheck, o_fieldAddr, o_indexAddr, g_none, g_some, pick_bool, bin_eql, bin_lss, nil_ptr, Option.bind_some, Option.map_some, decide_eq_true_eq, ↓reduceIte, Nat.reduceEqDiff, not_false_eq_true, Nat.reduceAdd, List.getElem?_cons_zero, List.getElem?_cons_succ, List.getElem?_toArray, List.map_cons, List.map_nil, List.append_nil, List.nil_append, List.cons_append, AH.get_alloc, and_true, Nat.reduceLeDiff, ne_eq, ia_lst T30 d30 T25 s25, load_fp1 T25 a25, loadc_def, build_struct T88 d88, z88, parts_eq, fillA, AV.cells, AH.splice, List.take_zero, List.drop_succ_cons, List.drop_zero, List.length_cons, List.length_nil, p88_0, box_agg, fa_ptr T88 p88_2 (by decide), load_p1 T26 a26, fa_ptr T88 p88_1 (by decide), load_p1 T3 a3, len_lst T25 d25, callV_fn (g := 68) (by decide), e21, e22, e23, c1, c2, c3, k68, cast_nonneg, toNat_cast]
      have hnext0 := hnext
      have hexit0 := hexit
      obtain ⟨k0, hk0⟩ : ∃ k0, k0 = k := ⟨k, rfl⟩
      rename AH => H
      refine iterL_wp (Q := fun r => Q37 net gs r) (N := g.length) (Inv := fun k e h' => ∃ q u x p, k + q = g.length ∧ In37 H h' b net g q p u x ∧ q ≤ g.length ∧ e 3 = .nils ∧ e 5 = v ∧ e 6 = w ∧ e 8 = .lst false 1 b.length (b.map vByte.enc) ∧ e 9 = .ptr H.next 0 ∧ e 10 = .int .i64 (tot : Nat) ∧ e 11 = u ∧ e 12 = x ∧ e 21 = .lst false 1 gs.length ((bsOf net tot gs).map vB.enc) ∧ e 22 = .int .i64 (gs.length : Nat) ∧ e 23 = .int .i64 (i : Nat)) ?_ ?_ (by omega)
      · rintro k e h' K' ⟨q, u, x, p, hk, hin, hqg, e3, e5, e6, e8, e9, e10, e11, e12, e21, e22, e23⟩ hnext hexit
        have hrr := hin.hr
        unfold rd at hrr
        have hlu : ∀ h, aLen T 22 u h = some (.int .i64 (q : Nat)) := fun h => row_len T22 d22 hin.hu
        by_cases hq : q < g.length
        · obtain ⟨z, hz⟩ : ∃ z, z = g[q] := ⟨_, rfl⟩
          have hzz : isZone z = true := by rw [hz]; exact l3 _ (List.getElem_mem hq)
          have hat := hin.ha
          rw [drop_cons hq, ← hz, List.flatMap_cons] at hat
          have hpb : p < b.length := by
            have h1 := hat.1
            have h2 := congrArg List.length hat.2
            have h3 := pz_pos net z
            simp only [List.length_drop, List.length_append] at h2
            omega
          have hat1 : At b p (be2 net ++ (putT z ++ (g.drop (q + 1)).flatMap (pz net))) := by
            have : pz net z = be2 net ++ putT z := rfl
            rw [this, List.append_assoc] at hat; exact hat
          obtain ⟨hn1, hat2⟩ := hat1.net hn
          obtain ⟨hz1, hat3⟩ := hat2.zone hzz
          obtain ⟨p', hp'⟩ : ∃ p', p' = p + 2 + (putT z).length := ⟨_, rfl⟩
          rw [← hp'] at hz1 hat3
          have k69 := fun m => K69 h51 h102 h69 m b false p 0 H.next h' hbL (fun _ => ⟨by omega, by omega⟩) hin.hr
          rw [hn1] at k69
          obtain ⟨bu, h2, happ, hu2, gu2, n2, bb2, bl2, kk2⟩ := pushB T22 d22 T3 s3 (by rw [b3]; decide) (hin.hu.put (hin.ub.off (Nat.lt_succ_self _)) (rd false b ((p + 2 : Nat) : Int) 0)) (x := .int .i64 net) rfl (by rw [b3]; unfold maxBytes; omega)
          have hrep : List.replicate q (AV.int .i64 net) ++ [.int .i64 net] = List.replicate (q + 1) (.int .i64 net) := by rw [List.replicate_succ']
          rw [hrep] at hu2 gu2
          simp only [AH.next_put] at happ n2 bb2 kk2
          have hnx := hin.nx
          have hx2 := (hin.hw.put (hin.wb.off (Nat.lt_succ_self _)) (rd false b ((p + 2 : Nat) : Int) 0)).keep2 n2 kk2 hin.uw
          have g2r : h2.get H.next = some (rd false b ((p + 2 : Nat) : Int) 0) := by rw [kk2 _ hnx (hin.ub.off (Nat.lt_succ_self _)), AH.get_put, if_pos rfl]
          have g2r' := g2r
          unfold rd at g2r'
          have k74 := fun m => K74 h22 h102 h104 h74 m b false ((p + 2 : Nat) : Int) 0 H.next h2 hbL (fun _ => ⟨by omega, by have := hat2.1; omega⟩) g2r
          rw [hz1] at k74
          have nbr : ∀ c, c < h'.next → c ≠ bu := fun c hc => by omega
          have hu3 := hu2.put (q := H.next) ((abv.sl (n := H.next + 1) (b := bu) (by omega)).off (Nat.lt_succ_self _)) (rd false b (p' : Nat) 0)
          obtain ⟨bx, h3, happ3, hx3, gx3, n3, bb3, bl3, kk3⟩ := pushB T23 d23 T9 s9 (by rw [b9]; decide) (hx2.put (q := H.next) (hin.wb.off (Nat.lt_succ_self _)) (rd false b (p' : Nat) 0)) (x := .str z) rfl (by rw [b9]; unfold maxBytes; omega)
          simp only [AH.next_put] at happ3 n3 bb3 kk3
          have hxu : apart x (.sl bu 0 (q + 1) (q + 1) 1 false) := abv.apart' (n := h'.next) (abv.sl bb2) (fun b1 o1 l1 k1 z1 x1 hv => hin.hw.lt hv)
          have hu4 := hu3.keep2 n3 kk3 hxu
          have g83 : aIndexAddr T 22 (.sl bu 0 (q + 1) (q + 1) 1 false) (.int .i64 (q : Nat)) = some (.ptr bu q) := by
            rw [ia_sl T22 d22 T3 s3, if_pos ⟨by omega, by omega⟩]; simp
          have g86 : aIndexAddr T 22 (.sl bu 0 (q + 1) (q + 1) 1 false) (.int .i64 0) = some (.ptr bu 0) := by
            rw [ia_sl T22 d22 T3 s3, if_pos ⟨by omega, by omega⟩]; simp
          have g84 : (List.replicate (q + 1) (AV.int .i64 net))[q]? = some (.int .i64 net) := by simp
          have g87 : (List.replicate (q + 1) (AV.int .i64 net))[0]? = some (.int .i64 net) := by simp
          have c5 : IntKind.i64.wrap (((q + 1 : Nat) : Int) - 1) = (q : Int) := by rw [wrap_i64 (by omega) (by omega)]; omega
          have c6 : (p : Int) < (b.length : Int) := by omega
          have hin2 : In37 H h3 b net g (q + 1) p' (.sl bu 0 (q + 1) (q + 1) 1 false) (.sl bx 0 (q + 1) (q + 1) 1 false) := by
            refine ⟨hu4, ?_, ?_, hat3, abv.sl (by omega), abv.sl (by omega), abv.apart' (n := h2.next) (abv.sl bb3) (fun b1 o1 l1 k1 z1 x1 hv => by cases hv; omega), by omega, fun c hc => ?_⟩
            · rw [take_snoc hq, ← hz, List.map_append]; exact hx3
            · rw [kk3 _ (by omega) (hin.wb.off (Nat.lt_succ_self _)), AH.get_put, if_pos rfl]
            · rw [kk3 c (by omega) (hin.wb.off (by omega)), AH.get_put, if_neg (by omega), kk2 c (by omega) (hin.ub.off (by omega)), AH.get_put, if_neg (by omega), hin.kp c hc]
          by_cases hq0 : (q : Int) = 0
          · simp +contextual (maxSteps := 3000000) only [↓code_skip, ↓code_seq, ↓code_region, ↓code_cond, ↓code_block, aCond_bool, ↓ops_nil, ↓ops_cons, run_none, run_someT, run_someF, ↓run0_v, ↓run0_r, ↓seqK_normal, ↓blkK_normal, put_same, put_ne, ev_tmp, ev_const, ev_func, oc_int, oc_bool, o_move, o_assign, o_pick, o_bin, o_call, o_len, o_buildSlice, o_load, o_nilCheck, o_fieldAddr, o_indexAddr, o_append, g_none, g_some, pick_bool, bin_sub, bin_eql, bin_neq, nil_ptr, Option.bind_some, decide_eq_true_eq, ↓reduceIte, Nat.reduceEqDiff, not_false_eq_true, not_true_eq_false, Nat.reduceAdd, Nat.reduceMul, Nat.succ_ne_self, List.getElem?_cons_zero, List.getElem?_cons_succ, List.getElem?_toArray, List.map_cons, List.map_nil, List.append_nil, List.nil_append, AH.next_put, and_true, Nat.le_refl, Bool.not_eq_eq_eq_not, Bool.not_true, ne_eq, decide_eq_false_iff_not, loadc_def, parts_eq, fillA, AV.cells, AH.splice, List.take_zero, List.drop_succ_cons, List.drop_nil, List.length_cons, List.length_nil, fa_ptr T88 p88_2 (by decide), load_p1 T26 a26, load_p1 T3 a3, len_sl T22 d22, buildSl T22 d22 T3 (n := 1) (by rw [s3]; decide), s3, z3, repl, buildSl T23 d23 T9 (n := 1) (by rw [s9]; decide), s9, z9, callV_fn (g := 69) (by decide), callV_fn (g := 74) (by decide), e8, e9, e11, e12, hrr, hlu, hq0, k69, happ, g2r', gu2, g86, g87, c5, k74, happ3]
            refine hnext (k - 1) _ _ (by omega) ⟨q + 1, .sl bu 0 (q + 1) (q + 1) 1 false, .sl bx 0 (q + 1) (q + 1) 1 false, p', by omega, ?_, ?_, ?_, ?_, ?_, ?_, ?_, ?_, ?_, ?_, ?_, ?_, ?_⟩
            · exact hin2
            · omega
            · simp only [put_ne, Nat.reduceEqDiff, not_false_eq_true, ne_eq, e3]
            · simp only [put_ne, Nat.reduceEqDiff, not_false_eq_true, ne_eq, e5]
            · simp only [put_ne, Nat.reduceEqDiff, not_false_eq_true, ne_eq, e6]
            · simp only [put_ne, Nat.reduceEqDiff, not_false_eq_true, ne_eq, e8]
            · simp only [put_ne, Nat.reduceEqDiff, not_false_eq_true, ne_eq, e9]
            · simp only [put_ne, Nat.reduceEqDiff, not_false_eq_true, ne_eq, e10]
            · simp only [put_same, put_ne, Nat.reduceEqDiff, not_false_eq_true, ne_eq]
            · simp only [put_same]
            · simp only [put_ne, Nat.reduceEqDiff, not_false_eq_true, ne_eq, e21]
            · simp only [put_ne, Nat.reduceEqDiff, not_false_eq_true, ne_eq, e22]
            · simp only [put_ne, Nat.reduceEqDiff, not_false_eq_true, ne_eq, e23]
          · simp +contextual (maxSteps := 3000000) only [↓code_skip, ↓code_seq, ↓code_region, ↓code_cond, ↓code_block, aCond_bool, ↓ops_nil, ↓ops_cons, run_none, run_someT, run_someF, ↓run0_v, ↓run0_r, ↓seqK_normal, ↓blkK_normal, put_same, put_ne, ev_tmp, ev_const, ev_func, oc_int, oc_bool, o_move, o_assign, o_pick, o_bin, o_call, o_len, o_buildSlice, o_load, o_nilCheck, o_fieldAddr, o_indexAddr, o_append, g_none, g_some, pick_bool, bin_sub, bin_eql, bin_neq, bin_lss, nil_ptr, Option.bind_some, decide_eq_true_eq, ↓reduceIte, Nat.reduceEqDiff, not_false_eq_true, not_true_eq_false, Nat.reduceAdd, Nat.reduceMul, Nat.succ_ne_self, List.getElem?_cons_zero, List.getElem?_cons_succ, List.getElem?_toArray, List.map_cons, List.map_nil, List.append_nil, List.nil_append, AH.next_put, and_true, Nat.le_refl, Bool.not_eq_eq_eq_not, Bool.not_true, ne_eq, decide_eq_false_iff_not, loadc_def, parts_eq, fillA, AV.cells, AH.splice, List.take_zero, List.drop_succ_cons, List.drop_nil, List.length_cons, List.length_nil, fa_ptr T88 p88_2 (by decide), load_p1 T26 a26, fa_ptr T88 p88_1 (by decide), load_p1 T3 a3, len_lst T25 d25, len_sl T22 d22, buildSl T22 d22 T3 (n := 1) (by rw [s3]; decide), s3, z3, repl, buildSl T23 d23 T9 (n := 1) (by rw [s9]; decide), s9, z9, callV_fn (g := 69) (by decide), callV_fn (g := 74) (by decide), e8, e9, e11, e12, hrr, hlu, hq0, c6, k69, happ, g2r', gu2, g83, g84, g86, g87, c5, k74, happ3]
            refine hnext (k - 1) _ _ (by omega) ⟨q + 1, .sl bu 0 (q + 1) (q + 1) 1 false, .sl bx 0 (q + 1) (q + 1) 1 false, p', by omega, ?_, ?_, ?_, ?_, ?_, ?_, ?_, ?_, ?_, ?_, ?_, ?_, ?_⟩
            · exact hin2
            · omega
            · simp only [put_ne, Nat.reduceEqDiff, not_false_eq_true, ne_eq, e3]
            · simp only [put_ne, Nat.reduceEqDiff, not_false_eq_true, ne_eq, e5]
            · simp only [put_ne, Nat.reduceEqDiff, not_false_eq_true, ne_eq, e6]
            · simp only [put_ne, Nat.reduceEqDiff, not_false_eq_true, ne_eq, e8]
            · simp only [put_ne, Nat.reduceEqDiff, not_false_eq_true, ne_eq, e9]
            · simp only [put_ne, Nat.reduceEqDiff, not_false_eq_true, ne_eq, e10]
            · simp only [put_same, put_ne, Nat.reduceEqDiff, not_false_eq_true, ne_eq]
            · simp only [put_same]
            · simp only [put_ne, Nat.reduceEqDiff, not_false_eq_true, ne_eq, e21]
            · simp only [put_ne, Nat.reduceEqDiff, not_false_eq_true, ne_eq, e22]
            · simp only [put_ne, Nat.reduceEqDiff, not_false_eq_true, ne_eq, e23]
        · have hqe : q = g.length := by omega
          have hat := hin.ha
          rw [drop_end hq] at hat
          have hpe : p = b.length := by
            have h1 := hat.1
            have h2 := congrArg List.length hat.2
            simp only [List.length_drop, List.flatMap_nil, List.length_nil] at h2
            omega
          have c6 : ¬ (p : Int) < (b.length : Int) := by omega
          have hq0 : ¬ (q : Int) = 0 := by omega
          simp +contextual (maxSteps := 3000000) only [↓code_seq, ↓code_region, ↓code_cond, ↓code_exit, aCond_bool, ↓ops_nil, ↓ops_cons, run_none, run_someT, run_someF, ↓run0_v, ↓seqK_normal, ↓seqK_exit, put_same, put_ne, ev_tmp, ev_const, oc_int, oc_bool, o_move, o_pick, o_bin, o_len, o_load, o_nilCheck, o_fieldAddr, g_none, g_some, pick_bool, bin_eql, bin_lss, nil_ptr, Option.bind_some, decide_eq_true_eq, ↓reduceIte, Nat.reduceEqDiff, not_false_eq_true, Nat.reduceAdd, List.getElem?_cons_zero, List.getElem?_cons_succ, List.getElem?_toArray, ne_eq, loadc_def, fa_ptr T88 p88_2 (by decide), load_p1 T26 a26, fa_ptr T88 p88_1 (by decide), load_p1 T3 a3, len_lst T25 d25, e8, e9, e11, hrr, hlu, hq0, c6]
          refine hexit _ _ _ (by simp) ?_
          have hnx := hin.nx
          obtain ⟨p109, i109, ld109⟩ := row_at T22 d22 T3 s3 a3 hin.hu (i := 0) (x := .int .i64 net) (by rw [List.getElem?_replicate, if_pos (by omega)])
          have i109' : aIndexAddr T 22 u (.int .i64 0) = some p109 := i109
          obtain ⟨hcx, hox⟩ := row_cells hin.hw
          have hvI : Row 1 h' v (2 * i) (nets37 net tot i) := hv.keep (by omega) (fun b hv' => hin.kp b (hv.lt hv'))
          have hwI : Row 1 h' w i es := hw.keep (by omega) (fun b hv' => hin.kp b (hw.lt hv'))
          obtain ⟨bv, h3, happ5, hrow5, hn5, hb5, hk5⟩ := (hvI.alloc (.cells [.int .i64 net, .int .i64 (tot : Nat)] .own)).app T22 d22 T3 (isSrc_sl T22 d22) s3 (by rw [b3]; decide) (m := 2) (new := [.int .i64 net, .int .i64 (tot : Nat)])
            (x := .sl h'.next 0 2 2 1 true) (by rw [s3, src_sl]; simp [AH.loadn, AH.get_alloc]) (by omega) rfl rfl (by rw [b3]; unfold maxBytes; omega)
          have hn5' : h'.next + 1 ≤ h3.next := by simpa using hn5
          have hb5' : h'.next + 1 ≤ bv := by simpa using hb5
          have kk5 : ∀ c, c < h'.next → offRow v c → h3.get c = h'.get c := fun c hc ho => by rw [hk5 c (by simp; omega) ho, AH.get_alloc, if_neg (by omega)]
          have hw5 : Row 1 h3 w i es := hwI.keep (by omega) (fun b hv' => kk5 b (hwI.lt hv') (hvw _ _ _ _ _ _ hv'))
          have hvx : apart v x := abv.apart' hin.wb (fun b1 o1 l1 k1 z1 x1 hv' => by have := hv.lt hv'; omega)
          have hwx : apart w x := abv.apart' hin.wb (fun b1 o1 l1 k1 z1 x1 hv' => by have := hw.lt hv'; omega)
          have hx5 := hin.hw.keep2 (by omega) kk5 hvx
          obtain ⟨bw, h4, happ6, hrow6, g6, n6, l6, bl6, kk6⟩ := pushB T101 d101 T23 s23 (by rw [b23]; decide) hw5 (x := x) hox (by rw [b23]; unfold maxBytes; omega)
          have hv6 : Row 1 h4 (.sl bv 0 (2 * i + 2) (2 * i + 2) 1 false) (2 * (i + 1)) (nets37 net tot (i + 1)) := by
            rw [nets37_succ, show 2 * (i + 1) = 2 * i + 2 by omega]
            exact hrow5.keep2 n6 kk6 (abv.apart' (n := h'.next) (abv.sl (by omega)) (fun b1 o1 l1 k1 z1 x1 hv' => hwI.lt hv'))
          have htl : (gs.take (i + 1)) = gs.take i ++ [g] := by rw [take_snoc hi, ← hgg]
          have hel := hels.1
          have hel' : es.length = i := by rw [hel, List.length_take]; omega
          have hels2 : ElsT h4 (.sl bw 0 (i + 1) (i + 1) 1 false) (es ++ [x]) (gs.take (i + 1)) := by
            rw [htl]
            refine ⟨by simp [hel']; omega, fun q' e' g' hq1 hq2 => ?_⟩
            by_cases hlt : q' < i
            · rw [List.getElem?_append_left (by omega)] at hq1
              rw [List.getElem?_append_left (by rw [List.length_take]; omega)] at hq2
              obtain ⟨y1, y2⟩ := hels.2 q' e' g' hq1 hq2
              have hme : e' ∈ es := List.mem_of_getElem? hq1
              refine ⟨?_, abv.apart (n := h'.next) (abv.sl (by omega)) (fun b1 o1 l1 k1 z1 x1 hv' => by have := y1.lt hv'; omega)⟩
              have y3 : Row 1 h' e' g'.length (g'.map .str) := y1.keep (by omega) (fun b hv' => hin.kp b (y1.lt hv'))
              exact (y3.keep2 (by omega) kk5 (hve e' hme)).keep2 n6 kk6 y2
            · rw [List.getElem?_append_right (by omega)] at hq1
              rw [List.getElem?_append_right (by rw [List.length_take]; omega)] at hq2
              have hq0 : q' - es.length = 0 := by
                have := (List.getElem?_eq_some_iff.1 hq1).1
                simp at this; omega
              have hq3 : q' - (gs.take i).length = 0 := by rw [List.length_take]; omega
              rw [hq0] at hq1
              rw [hq3] at hq2
              simp at hq1 hq2
              subst hq1 hq2
              rw [hqe, List.take_length] at hx5
              exact ⟨hx5.keep2 n6 kk6 hwx, abv.apart (n := h3.next) (abv.sl (by omega)) (fun b1 o1 l1 k1 z1 x1 hv' => by have := hx5.lt hv'; omega)⟩
          have hci : ∀ k n, (AV.int k n).cells = some [.int k n] := fun _ _ => rfl
          have c9 : IntKind.i64.wrap ((i : Int) + 1) = ((i + 1 : Nat) : Int) := by rw [wrap_i64 (by omega) (by omega)]; rfl
          simp +contextual (maxSteps := 3000000) only [↓code_skip, ↓code_seq, ↓code_region, ↓code_cond, aCond_bool, ↓ops_nil, ↓ops_cons, run_none, ↓run0_v, ↓run0_r, ↓seqK_normal, ↓blkK_normal, ↓blkK_exit, put_same, put_ne, ev_tmp, ev_const, oc_int, o_move, o_assign, o_bin, o_buildSlice, o_load, o_nilCheck, o_fieldAddr, o_indexAddr, o_append, g_none, bin_add, bin_neq, nil_ptr, Option.bind_some, ↓reduceIte, Nat.reduceEqDiff, not_false_eq_true, not_true_eq_false, Nat.reduceAdd, Nat.reduceMul, List.getElem?_cons_zero, List.getElem?_cons_succ, List.map_cons, List.map_nil, List.append_nil, List.nil_append, List.cons_append, and_true, Nat.reduceLeDiff, Nat.le_refl, Bool.not_eq_eq_eq_not, Bool.not_true, ne_eq, decide_eq_false_iff_not, loadc_def, parts_eq, fillA, AH.splice, List.take_succ_cons, List.take_zero, List.drop_succ_cons, List.drop_zero, List.drop_nil, List.length_cons, List.length_nil, fa_ptr T88 p88_2 (by decide), load_p1 T26 a26, s3, z3, repl, buildSl T22 d22 T3 (n := 2) (by rw [s3]; decide), buildSl T101 d101 T23 (n := 1) (by rw [s23]; decide), s23, z23, e5, e6, e9, e10, e11, e12, e23, hrr, i109', ld109, hcx, hci, happ5, happ6, c9]
          refine hnext0 (k0 - 1) _ _ (by omega) ⟨i + 1, .sl bv 0 (2 * i + 2) (2 * i + 2) 1 false, .sl bw 0 (i + 1) (i + 1) 1 false, es ++ [x], by omega, by omega, hv6, hrow6, hels2, abv.apart' (n := h3.next) (abv.sl (by omega)) (fun b1 o1 l1 k1 z1 x1 hv' => hrow5.lt hv'), fun e' he' => ?_, ?_, ?_, ?_, ?_, ?_, ?_⟩
          · rcases List.mem_append.1 he' with he' | he'
            · obtain ⟨q', hq'⟩ := List.getElem?_of_mem he'
              have hql : q' < es.length := (List.getElem?_eq_some_iff.1 hq').1
              obtain ⟨y1, _⟩ := hels.2 q' e' (gs.take i)[q'] hq' (List.getElem?_eq_getElem (by omega))
              exact abv.apart (n := h'.next) (abv.sl (by omega)) (fun b1 o1 l1 k1 z1 x1 hv' => by have := y1.lt hv'; omega)
            · simp at he'; subst he'
              exact abv.apart (n := h'.next) (abv.sl (by omega)) (fun b1 o1 l1 k1 z1 x1 hv' => hin.hw.lt hv')
          · simp only [put_ne, Nat.reduceEqDiff, not_false_eq_true, ne_eq, e3]
          · simp only [put_same, put_ne, Nat.reduceEqDiff, not_false_eq_true, ne_eq]
          · simp only [put_same, put_ne, Nat.reduceEqDiff, not_false_eq_true, ne_eq]
          · simp only [put_ne, Nat.reduceEqDiff, not_false_eq_true, ne_eq, e21]
          · simp only [put_ne, Nat.reduceEqDiff, not_false_eq_true, ne_eq, e22]
          · simp only [put_same]
      · refine ⟨0, .nils, .nils, 2, by omega, ?_, ?_, ?_, ?_, ?_, ?_, ?_, ?_, ?_, ?_, ?_, ?_, ?_⟩
        · (exact ⟨Row.nil _ _, Row.nil _ _, by rw [AH.get_alloc, if_pos rfl]; rfl, ha0, abv.nil _, abv.nil _, (fun b o l k z x hv => by cases hv), by simp, fun c hc => by rw [AH.get_alloc, if_neg (by omega)]⟩)
        · omega
        · simp only [put_ne, Nat.reduceEqDiff, not_false_eq_true, ne_eq, e3]
        · simp only [put_ne, Nat.reduceEqDiff, not_false_eq_true, ne_eq, e5]
        · simp only [put_ne, Nat.reduceEqDiff, not_false_eq_true, ne_eq, e6]
        · simp only [put_same, put_ne, Nat.reduceEqDiff, not_false_eq_true, ne_eq]
        · simp only [put_same, put_ne, Nat.reduceEqDiff, not_false_eq_true, ne_eq]
        · simp only [put_same, put_ne, Nat.reduceEqDiff, not_false_eq_true, ne_eq]
        · simp only [put_same, put_ne, Nat.reduceEqDiff, not_false_eq_true, ne_eq]
        · simp only [put_same]
        · simp only [put_ne, Nat.reduceEqDiff, not_false_eq_true, ne_eq, e21]
        · simp only [put_ne, Nat.reduceEqDiff, not_false_eq_true, ne_eq, e22]
        · simp only [put_ne, Nat.reduceEqDiff, not_false_eq_true, ne_eq, e23]
    · have hie : i = gs.length := by omega
      rw [take_end hie] at hels
      have hel := hels.1
      have c1 : ¬ (i : Int) < (gs.length : Int) := by omega
      simp +contextual (maxSteps := 3000000) only [↓code_seq, ↓code_region, ↓code_cond, ↓code_exit, aCond_bool, ↓ops_nil, ↓ops_cons, run_none, ↓run0_v, ↓seqK_normal, ↓seqK_exit, put_same, ev_tmp, o_bin, g_none, bin_lss, decide_eq_true_eq, ↓reduceIte, e22, e23, c1]
      refine hexit _ _ _ (by simp) ?_
      obtain ⟨r1, r2⟩ := nets37_at (net := net) (tot := tot) (i := 0) (n := i) (by omega)
      obtain ⟨p1, i1, ld1⟩ := row_at T22 d22 T3 s3 a3 hv r1
      obtain ⟨p2, i2, ld2⟩ := row_at T22 d22 T3 s3 a3 hv r2
      have i1' : aIndexAddr T 22 v (.int .i64 0) = some p1 := i1
      have i2' : aIndexAddr T 22 v (.int .i64 1) = some p2 := i2
      have hlw : ∀ h, aLen T 101 w h = some (.int .i64 (i : Nat)) := fun h => row_len T101 d101 hw
      simp +contextual (maxSteps := 3000000) only [↓code_seq, ↓code_region, ↓code_block, ↓code_loop, ↓ops_nil, ↓ops_cons, run_none, ↓run0_v, ↓seqK_normal, ↓blkK_exit, put_same, put_ne, ev_tmp, ev_const, oc_int, o_move, o_assign, o_len, o_load, o_indexAddr, g_none, ↓reduceIte, Nat.reduceEqDiff, not_false_eq_true, ne_eq, e5, e6, i1', ld1, i2', ld2, hlw]
      rename AH => H
      refine iterL_wp (Q := fun r => Q37 net gs r) (N := i) (Inv := fun k e h' => ∃ j y, k + j = i ∧ Row 1 h' y (uni [] (gs.take j).flatten).length ((uni [] (gs.take j).flatten).map .str) ∧ abv H.next y ∧ (∀ c, c < H.next → h'.get c = H.get c) ∧ H.next ≤ h'.next ∧ j ≤ i ∧ e 2 = .int .i64 net ∧ e 3 = y ∧ e 5 = v ∧ e 13 = .int .i64 (tot : Nat) ∧ e 125 = w ∧ e 126 = .int .i64 (i : Nat) ∧ e 127 = .int .i64 (j : Nat)) ?_ ?_ (by omega)
      · rintro k e h' K' ⟨j, y, hk, hy, hya, hkp, hle, hji, e2, e3, e5, e13, e125, e126, e127⟩ hnext hexit
        by_cases hj : j < i
        · have c1 : (j : Int) < (i : Int) := by omega
          have hjg : j < gs.length := by omega
          have hje : j < es.length := by omega
          obtain ⟨g, hgg⟩ : ∃ g, g = gs[j] := ⟨_, rfl⟩
          obtain ⟨l1, l2, l3⟩ := g3 g (by rw [hgg]; exact List.getElem_mem hjg)
          obtain ⟨ee, hee⟩ : ∃ ee, ee = es[j] := ⟨_, rfl⟩
          have hej : es[j]? = some ee := by rw [hee]; exact List.getElem?_eq_getElem hje
          have hrj := (hels.2 j ee g hej (by rw [hgg]; exact List.getElem?_eq_getElem hjg)).1
          have hv1 := hv.keep (h2 := h') hle (fun b hv' => hkp b (hv.lt hv'))
          have hw1 := hw.keep (h2 := h') hle (fun b hv' => hkp b (hw.lt hv'))
          obtain ⟨r3, r4⟩ := nets37_at (net := net) (tot := tot) (i := j) (n := i) hj
          obtain ⟨p3, i3, ld3⟩ := row_at T22 d22 T3 s3 a3 hv1 r3
          obtain ⟨p4, i4, ld4⟩ := row_at T22 d22 T3 s3 a3 hv1 r4
          obtain ⟨p5, i5, ld5⟩ := row_at T101 d101 T23 s23 a23 hw1 hej
          have c7 : IntKind.i64.wrap (2 * (j : Int)) = ((2 * j : Nat) : Int) := by rw [wrap_i64 (by omega) (by omega)]; omega
          have c8 : IntKind.i64.wrap (((2 * j : Nat) : Int) + 1) = ((2 * j + 1 : Nat) : Int) := by rw [wrap_i64 (by omega) (by omega)]; omega
          have c9 : IntKind.i64.wrap ((j : Int) + 1) = ((j + 1 : Nat) : Int) := by rw [wrap_i64 (by omega) (by omega)]; rfl
          have hle' : ∀ h, aLen T 23 ee h = some (.int .i64 (g.length : Nat)) := fun h => row_len T23 d23 hrj
          simp +contextual (maxSteps := 3000000) only [↓code_skip, ↓code_seq, ↓code_region, ↓code_cond, ↓code_block, ↓code_loop, aCond_bool, ↓ops_nil, ↓ops_cons, run_none, run_someF, ↓run0_v, ↓seqK_normal, put_same, put_ne, ev_tmp, ev_const, oc_int, oc_bool, o_move, o_assign, o_pick, o_bin, o_len, o_load, o_indexAddr, g_none, g_some, pick_bool, bin_add, bin_mul, bin_neq, bin_lss, Option.bind_some, decide_eq_true_eq, ↓reduceIte, Nat.reduceEqDiff, not_false_eq_true, not_true_eq_false, List.getElem?_cons_zero, List.getElem?_cons_succ, List.getElem?_toArray, Bool.not_eq_eq_eq_not, Bool.not_true, ne_eq, decide_eq_false_iff_not, e2, e5, e13, e125, e126, e127, c1, i3, i4, i5, ld3, ld4, ld5, c7, c8, hle']
          have hnext0 := hnext
          have hexit0 := hexit
          obtain ⟨k0, hk0⟩ : ∃ k0, k0 = k := ⟨k, rfl⟩
          rename AH => H1
          refine iterL_wp (Q := fun r => Q37 net gs r) (N := g.length) (Inv := fun k e h' => ∃ q y, k + q = g.length ∧ Row 1 h' y (uni [] ((gs.take j).flatten ++ g.take q)).length ((uni [] ((gs.take j).flatten ++ g.take q)).map .str) ∧ abv H.next y ∧ (∀ c, c < H.next → h'.get c = H.get c) ∧ H.next ≤ h'.next ∧ q ≤ g.length ∧ e 2 = .int .i64 net ∧ e 3 = y ∧ e 5 = v ∧ e 13 = .int .i64 (tot : Nat) ∧ e 125 = w ∧ e 126 = .int .i64 (i : Nat) ∧ e 127 = .int .i64 (j : Nat) ∧ e 149 = ee ∧ e 150 = .int .i64 (g.length : Nat) ∧ e 151 = .int .i64 (q : Nat)) ?_ ?_ (by omega)
          · rintro k e h' K' ⟨q, y, hk, hy, hya, hkp, hle, hqg, e2, e3, e5, e13, e125, e126, e127, e149, e150, e151⟩ hnext hexit
            by_cases hq : q < g.length
            · have d1 : (q : Int) < (g.length : Int) := by omega
              obtain ⟨z, hz⟩ : ∃ z, z = g[q] := ⟨_, rfl⟩
              have hzz : isZone z = true := by rw [hz]; exact l3 _ (List.getElem_mem hq)
              have hzl := zone_len hzz
              have hrj1 := hrj.keep (h2 := h') hle (fun b hv' => hkp b (hrj.lt hv'))
              obtain ⟨p6, i6, ld6⟩ := row_at T23 d23 T9 s9 a9 hrj1 (i := q) (x := .str z) (by rw [List.getElem?_map, List.getElem?_eq_getElem hq, ← hz]; rfl)
              obtain ⟨A, hA⟩ : ∃ A, A = (gs.take j).flatten ++ g.take q := ⟨_, rfl⟩
              have hAl : A.length ≤ 400 := by
                have h1 := flat_le (gs := gs.take j) fun x hx => (g3 x (List.mem_of_mem_take hx)).2.1
                rw [List.length_take] at h1
                rw [hA, List.length_append, List.length_take]; omega
              have hAz : ∀ z ∈ A, isZone z = true := by
                intro y hy
                rw [hA] at hy
                rcases List.mem_append.1 hy with hy | hy
                · obtain ⟨g', hg1, hg2⟩ := List.mem_flatten.1 hy
                  exact (g3 g' (List.mem_of_mem_take hg1)).2.2 y hg2
                · exact l3 y (List.mem_of_mem_take hy)
              have hsn : (gs.take j).flatten ++ g.take (q + 1) = A ++ [z] := by rw [take_snoc hq, ← hz, hA, List.append_assoc]
              have hus : uni [] (A ++ [z]) = if (uni [] A).any (equal · z) then uni [] A else uni [] A ++ [z] := by rw [uni_app]; rfl
              rw [← hA] at hy
              have hul := uni_len [] A
              simp only [List.length_nil] at hul
              have d2 := fun m => K66v h66 m (uni [] A) z h' y hy (uni_small hg0 hAz (by omega)) (by omega)
              have d3 : IntKind.i64.wrap ((q : Int) + 1) = ((q + 1 : Nat) : Int) := by rw [wrap_i64 (by omega) (by omega)]; rfl
              cases hany : (uni [] A).any (equal · z) with
              | true =>
                rw [hany] at d2 hus
                simp +contextual (maxSteps := 3000000) only [↓code_skip, ↓code_seq, ↓code_region, ↓code_cond, ↓code_block, aCond_bool, ↓ops_nil, ↓ops_cons, run_none, ↓run0_v, ↓run0_r, ↓seqK_normal, ↓blkK_normal, put_same, put_ne, ev_tmp, ev_const, ev_func, oc_int, o_move, o_assign, o_bin, o_call, o_load, o_un, o_indexAddr, g_none, bin_add, bin_lss, un_not, decide_eq_true_eq, ↓reduceIte, Nat.reduceEqDiff, not_false_eq_true, Bool.false_eq_true, List.map_cons, List.map_nil, List.append_nil, List.nil_append, Bool.not_true, ne_eq, callV_fn (g := 66) (by decide), e3, e149, e150, e151, d1, i6, ld6, d2, d3]
                refine hnext (k - 1) _ _ (by omega) ⟨q + 1, y, by omega, ?_, ?_, ?_, ?_, ?_, ?_, ?_, ?_, ?_, ?_, ?_, ?_, ?_, ?_, ?_⟩
                · rw [hsn, hus, if_pos rfl]; exact hy
                · exact hya
                · exact hkp
                · exact hle
                · omega
                · simp only [put_ne, Nat.reduceEqDiff, not_false_eq_true, ne_eq, e2]
                · simp only [put_ne, Nat.reduceEqDiff, not_false_eq_true, ne_eq, e3]
                · simp only [put_ne, Nat.reduceEqDiff, not_false_eq_true, ne_eq, e5]
                · simp only [put_ne, Nat.reduceEqDiff, not_false_eq_true, ne_eq, e13]
                · simp only [put_ne, Nat.reduceEqDiff, not_false_eq_true, ne_eq, e125]
                · simp only [put_ne, Nat.reduceEqDiff, not_false_eq_true, ne_eq, e126]
                · simp only [put_ne, Nat.reduceEqDiff, not_false_eq_true, ne_eq, e127]
                · simp only [put_ne, Nat.reduceEqDiff, not_false_eq_true, ne_eq, e149]
                · simp only [put_ne, Nat.reduceEqDiff, not_false_eq_true, ne_eq, e150]
                · simp only [put_same]
              | false =>
                rw [hany] at d2 hus
                obtain ⟨by', h2, happ, hrow, gb, nb, lb, bb, kb⟩ := pushB T23 d23 T9 s9 (by rw [b9]; decide) hy (x := .str z) rfl (by rw [b9]; unfold maxBytes; omega)
                simp +contextual (maxSteps := 3000000) only [↓code_skip, ↓code_seq, ↓code_region, ↓code_cond, ↓code_block, aCond_bool, ↓ops_nil, ↓ops_cons, run_none, ↓run0_v, ↓run0_r, ↓seqK_normal, ↓blkK_normal, put_same, put_ne, ev_tmp, ev_const, ev_func, oc_int, o_move, o_assign, o_bin, o_call, o_buildSlice, o_load, o_un, o_indexAddr, o_append, g_none, bin_add, bin_lss, un_not, Option.bind_some, decide_eq_true_eq, ↓reduceIte, Nat.reduceEqDiff, not_false_eq_true, Nat.reduceAdd, Nat.reduceMul, List.map_cons, List.map_nil, List.append_nil, List.nil_append, and_true, Nat.le_refl, Bool.not_false, ne_eq, parts_eq, fillA, AV.cells, AH.splice, List.take_zero, List.drop_succ_cons, List.drop_nil, List.length_cons, List.length_nil, repl, buildSl T23 d23 T9 (n := 1) (by rw [s9]; decide), s9, z9, callV_fn (g := 66) (by decide), e3, e149, e150, e151, d1, i6, ld6, d2, d3, happ]
                refine hnext (k - 1) _ _ (by omega) ⟨q + 1, .sl by' 0 ((uni [] A).length + 1) ((uni [] A).length + 1) 1 false, by omega, ?_, ?_, ?_, ?_, ?_, ?_, ?_, ?_, ?_, ?_, ?_, ?_, ?_, ?_, ?_⟩
                · rw [hsn, hus, if_neg (by simp), List.length_append, List.map_append]; exact hrow
                · exact abv.sl (by omega)
                · exact fun c hc => by rw [kb c (by omega) (hya.off hc), hkp c hc]
                · omega
                · omega
                · simp only [put_ne, Nat.reduceEqDiff, not_false_eq_true, ne_eq, e2]
                · simp only [put_same, put_ne, Nat.reduceEqDiff, not_false_eq_true, ne_eq]
                · simp only [put_ne, Nat.reduceEqDiff, not_false_eq_true, ne_eq, e5]
                · simp only [put_ne, Nat.reduceEqDiff, not_false_eq_true, ne_eq, e13]
                · simp only [put_ne, Nat.reduceEqDiff, not_false_eq_true, ne_eq, e125]
                · simp only [put_ne, Nat.reduceEqDiff, not_false_eq_true, ne_eq, e126]
                · simp only [put_ne, Nat.reduceEqDiff, not_false_eq_true, ne_eq, e127]
                · simp only [put_ne, Nat.reduceEqDiff, not_false_eq_true, ne_eq, e149]
                · simp only [put_ne, Nat.reduceEqDiff, not_false_eq_true, ne_eq, e150]
                · simp only [put_same]
            · have d1 : ¬ (q : Int) < (g.length : Int) := by omega
              rw [take_end (show q = g.length by omega)] at hy
              have hsn : (gs.take (j + 1)).flatten = (gs.take j).flatten ++ g := by rw [take_snoc hjg, ← hgg]; simp
              simp +contextual (maxSteps := 3000000) only [↓code_seq, ↓code_region, ↓code_cond, ↓code_exit, aCond_bool, ↓ops_nil, ↓ops_cons, run_none, ↓run0_v, ↓seqK_normal, ↓seqK_exit, put_same, ev_tmp, o_bin, g_none, bin_lss, decide_eq_true_eq, ↓reduceIte, e150, e151, d1]
              refine hexit _ _ _ (by simp) ?_
              simp +contextual (maxSteps := 3000000) only [↓code_region, ↓ops_nil, ↓ops_cons, run_none, ↓run0_v, ↓seqK_normal, ↓blkK_normal, ↓blkK_exit, put_same, put_ne, ev_tmp, ev_const, oc_int, o_move, o_bin, g_none, bin_add, ↓reduceIte, Nat.reduceEqDiff, not_false_eq_true, ne_eq, e127, c9]
              refine hnext0 (k0 - 1) _ _ (by omega) ⟨j + 1, y, by omega, by rw [hsn]; exact hy, hya, hkp, hle, by omega, ?_, ?_, ?_, ?_, ?_, ?_, ?_⟩
              · simp only [put_ne, Nat.reduceEqDiff, not_false_eq_true, ne_eq, e2]
              · simp only [put_ne, Nat.reduceEqDiff, not_false_eq_true, ne_eq, e3]
              · simp only [put_ne, Nat.reduceEqDiff, not_false_eq_true, ne_eq, e5]
              · simp only [put_ne, Nat.reduceEqDiff, not_false_eq_true, ne_eq, e13]
              · simp only [put_ne, Nat.reduceEqDiff, not_false_eq_true, ne_eq, e125]
              · simp only [put_ne, Nat.reduceEqDiff, not_false_eq_true, ne_eq, e126]
              · simp only [put_same]
          · refine ⟨0, y, by omega, ?_, ?_, ?_, ?_, ?_, ?_, ?_, ?_, ?_, ?_, ?_, ?_, ?_, ?_, ?_⟩
            · rw [List.take_zero, List.append_nil]; exact hy
            · exact hya
            · exact hkp
            · exact hle
            · omega
            · simp only [put_ne, Nat.reduceEqDiff, not_false_eq_true, ne_eq, e2]
            · simp only [put_ne, Nat.reduceEqDiff, not_false_eq_true, ne_eq, e3]
            · simp only [put_ne, Nat.reduceEqDiff, not_false_eq_true, ne_eq, e5]
            · simp only [put_ne, Nat.reduceEqDiff, not_false_eq_true, ne_eq, e13]
            · simp only [put_ne, Nat.reduceEqDiff, not_false_eq_true, ne_eq, e125]
            · simp only [put_ne, Nat.reduceEqDiff, not_false_eq_true, ne_eq, e126]
            · simp only [put_ne, Nat.reduceEqDiff, not_false_eq_true, ne_eq, e127]
            · simp only [put_same, put_ne, Nat.reduceEqDiff, not_false_eq_true, ne_eq]
            · simp only [put_same, put_ne, Nat.reduceEqDiff, not_false_eq_true, ne_eq]
            · simp only [put_same]; rfl
        · have c1 : ¬ (j : Int) < (i : Int) := by omega
          rw [show j = gs.length by omega, List.take_length] at hy
          have hly : ∀ h, aLen T 23 y h = some (.int .i64 (tot : Nat)) := fun h => by rw [← hu]; exact row_len T23 d23 hy
          have c2 : ¬ ((tot : Nat) : Int) < ((tot : Nat) : Int) := by omega
          simp +contextual (maxSteps := 3000000) only [↓code_seq, ↓code_region, ↓code_cond, ↓code_exit, aCond_bool, ↓ops_nil, ↓ops_cons, run_none, ↓run0_v, ↓seqK_normal, ↓seqK_exit, put_same, ev_tmp, o_bin, g_none, bin_lss, decide_eq_true_eq, ↓reduceIte, e126, e127, c1]
          refine hexit _ _ _ (by simp) ⟨h', y, ?_, hy⟩
          simp +contextual (maxSteps := 3000000) only [↓code_skip, ↓code_seq, ↓code_region, ↓code_cond, ↓code_block, ↓code_ret, aCond_bool, ↓ops_nil, ↓ops_cons, run_none, ↓run0_v, ↓seqK_normal, ↓blkK_normal, ↓blkK_exit, ↓retK_ret, put_same, put_ne, ev_tmp, ev_const, oc_int, o_move, o_assign, o_bin, o_len, g_none, bin_lss, bin_gtr, resultsOf, oneOrAll, Option.map_some, decide_eq_true_eq, ↓reduceIte, Nat.reduceEqDiff, not_false_eq_true, gt_iff_lt, ne_eq, e2, e3, e13, hly, c2]
      · refine ⟨0, .nils, by omega, ?_, ?_, ?_, ?_, ?_, ?_, ?_, ?_, ?_, ?_, ?_, ?_⟩
        · exact Row.nil _ _
        · exact abv.nil _
        · exact (fun _ _ => rfl)
        · exact Nat.le_refl _
        · omega
        · simp only [put_same, put_ne, Nat.reduceEqDiff, not_false_eq_true, ne_eq]
        · simp only [put_ne, Nat.reduceEqDiff, not_false_eq_true, Nat.succ_ne_self, ne_eq, e3]
        · simp only [put_ne, Nat.reduceEqDiff, not_false_eq_true, ne_eq, e5]
        · simp only [put_same, put_ne, Nat.reduceEqDiff, not_false_eq_true, ne_eq]
        · simp only [put_same, put_ne, Nat.reduceEqDiff, not_false_eq_true, ne_eq]
        · simp only [put_same, put_ne, Nat.reduceEqDiff, not_false_eq_true, ne_eq]
        · simp only [put_same]; rfl
  · refine ⟨0, .nils, .nils, [], by omega, ?_, ?_, ?_, ?_, ?_, ?_, ?_, ?_, ?_, ?_, ?_, ?_⟩
    · omega
    · exact Row.nil _ _
    · exact Row.nil _ _
    · (refine ⟨rfl, fun q e g hq => by simp at hq⟩)
    · (intro b o l k z x hv; cases hv)
    · (intro e he; cases he)
    · simp only [put_same, put_ne, Nat.reduceEqDiff, not_false_eq_true, ne_eq]
    · simp only [put_same, put_ne, Nat.reduceEqDiff, not_false_eq_true, ne_eq]
    · simp only [put_same, put_ne, Nat.reduceEqDiff, not_false_eq_true, ne_eq]
    · simp only [put_same, put_ne, Nat.reduceEqDiff, not_false_eq_true, ne_eq]
    · simp only [put_same, put_ne, Nat.reduceEqDiff, not_false_eq_true, ne_eq]
    · simp only [put_same, K74 h22 h102 h104 h74]; rfl
end Go.AM.X.P
