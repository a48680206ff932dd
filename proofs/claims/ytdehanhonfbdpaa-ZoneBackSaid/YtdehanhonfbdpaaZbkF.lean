/- Rows of rows, frozen. Own work. -/
import Derived.Test.YtdehanhonfbdpaaZbkE
import Derived.Test.YtdehanhonfbdpaaAmSimp3
import Derived.Test.YtdehanhonfbdpaaAmInt2
namespace Go.AM.X
open Go Go.AM Go.Proofs Go.AM.Sx
set_option maxHeartbeats 400000
set_option linter.unusedVariables false
theorem els_frz {h : AH} (k : Nat) : ∀ (es : List AV) (ls : List (List UInt8)), es.length = ls.length → (∀ (q : Nat) (e : AV) (b : List UInt8), es[q]? = some e → ls[q]? = some b → RowE 1 h e b.length (ofBytes b)) →
    ∃ cs, frzMap (frzF false (k + 2) h) es = some cs ∧ WkL cs (ls.map vB.enc) ∧ cs.length = ls.length
  | [], [], _, _ => ⟨[], rfl, WkL.nil, rfl⟩
  | e :: es, b :: ls, hl, hr => by
    obtain ⟨cs, h1, h2, h3⟩ := els_frz k es ls (by simpa using hl) (fun q e' b' hq1 hq2 => hr (q + 1) e' b' (by simpa using hq1) (by simpa using hq2))
    obtain ⟨v0, h4, h5⟩ := (hr 0 e b rfl rfl).frz (k + 1) (frz_bytes b) (by simp [ofBytes])
    exact ⟨v0 :: cs, frzMap_cons h4 h1, WkL.cons h5 h2, by simp [h3]⟩
  | [], _ :: _, hl, _ => by simp at hl
  | _ :: _, [], hl, _ => by simp at hl
/-- Pieces, as the law's values have them. -/
def t18 (net : Int) (l : List (List UInt8)) : AV :=
  if isNet net = true ∧ isList l = true then .tup [.lst false 1 (pieces net l ((l.length + 2) / 3)).length ((pieces net l ((l.length + 2) / 3)).map vB.enc), .int .i64 0] else .tup [.lst false 1 0 [], .int .i64 2]
theorem fin18 {net : Int} {l : List (List UInt8)} {n f : Nat} {I : Nat → Option (List AV → AH → Rs)} {args : List AV} (hp : P18 net l (call F I T n f args e0)) :
    ∃ n k h1 v1 v0, call F I T n f args e0 = some (v1, h1) ∧ frzF false k h1 v1 = some v0 ∧ Wk v0 (t18 net l) := by
  unfold P18 at hp
  unfold t18
  split at hp
  · rename_i hc
    rw [if_pos hc]
    obtain ⟨h', v, es, h1, h2, h3⟩ := hp
    obtain ⟨cs, h4, h5, h6⟩ := els_frz 0 es _ h3.1 (fun q e b hq1 hq2 => (h3.2 q e b hq1 hq2).1)
    have hlen : (pieces net l ((l.length + 2) / 3)).length = (l.length + 2) / 3 := by simp [pieces]
    obtain ⟨v0, h7, h8⟩ := h2.frz (al := false) 2 h4 (by rw [h6, hlen]; omega)
    refine ⟨_, _, _, _, _, h1, frz_tup1 h7, Wk.tup (WkL.cons (Wk.trans h8 ?_) (WkL.cons (Wk.refl _) WkL.nil))⟩
    rw [hlen]
    exact Wk.lstL h5 (by simp [h6])
  · rename_i hc
    rw [if_neg hc]
    obtain ⟨h', h1⟩ := hp
    exact ⟨_, 2, _, _, .tup [.nils, .int .i64 2], h1, by simp [frzF, frzMap, AV.flat], Wk.tup (WkL.cons (Wk.nils _ _) (WkL.cons (Wk.refl _) WkL.nil))⟩
noncomputable def g18 := open Classical in G2 (vInt .i64) (vList vStr) fun net l => if small l then some (t18 net l) else none
end Go.AM.X
namespace Go.AM.X
open Go Go.AM Go.Proofs Go.AM.Sx
set_option maxHeartbeats 400000
set_option maxRecDepth 100000
set_option linter.unusedVariables false
theorem finPB2 {g : List UInt8 × Int} {n f : Nat} {I : Nat → Option (List AV → AH → Rs)} {args : List AV} (hp : PB2 g (call F I T n f args e0)) :
    ∃ n k h1 v1 v0, call F I T n f args e0 = some (v1, h1) ∧ frzF false k h1 v1 = some v0 ∧ Wk v0 (.tup [.lst false 1 g.1.length (ofBytes g.1), .int .i64 g.2]) := by
  obtain ⟨h', v, h1, h2 | rfl⟩ := hp
  · obtain ⟨v0, h3, h4⟩ := h2.frz 1 (frz_bytes g.1) (by simp [ofBytes])
    exact ⟨_, _, _, _, _, h1, frz_tup1 h3, Wk.tup (WkL.cons h4 (WkL.cons (Wk.refl _) WkL.nil))⟩
  · refine ⟨_, 3, _, _, _, h1, ?_, Wk.refl _⟩
    have hf := flat_bytes g.1
    simp [frzF, frzMap, AV.flat, hf]
theorem PB.to {g : List UInt8 × Int} {r : Rs} (h : PB g r) : PB2 g r := by
  obtain ⟨h', v, h1, h2⟩ := h
  exact ⟨h', v, h1, .inl h2⟩
noncomputable def M1 := addI I14 52 (pureG g52)
theorem C1 : IAgree Try.prog M1 := agree1 hT hmix hF A14 (by decide) F52 fun x r hs => by
  split at hs
  · rename_i hc; cases hs
    obtain ⟨h', v, h1, h2⟩ := run52 (I := I14)  rfl x 0 hc
    obtain ⟨v0, h3, h4⟩ := h2.frz 1 (frz_bytes (be2 x)) (by simp [ofBytes, be2])
    exact ⟨_, _, _, _, _, h1, h3, h4⟩
  · cases hs
noncomputable def M2 := addI M1 49 (pureG g49)
theorem C2 : IAgree Try.prog M2 := agree2 hT hmix hF C1 (by decide) F49 fun x y r hs => by
  split at hs
  · rename_i hc; cases hs; exact fin (run49 (I := M1) rfl rfl (h51 := rfl) (h50 := rfl) (h54 := rfl) x y 0 hc) (fun h => by simp [frzF, AV.flat])
  · cases hs
noncomputable def M3 := addI M2 53 (pureG g53)
theorem C3 : IAgree Try.prog M3 := agree1 hT hmix hF C2 (by decide) F53 fun x r hs => by
  split at hs
  · rename_i hc; cases hs; exact fin (run53 rfl rfl x 0 hc) (fun h => by simp [frzF, AV.flat])
  · cases hs
noncomputable def M4 := addI M3 13 (pureG g13)
theorem C4 : IAgree Try.prog M4 := agree1 hT hmix hF C3 (by decide) F13 fun x r hs => by
  split at hs
  · rename_i hc; cases hs; exact finPB2 (run13 (I := M3) rfl rfl rfl rfl rfl x 0 hc).to
  · cases hs
noncomputable def M5 := addI M4 14 (pureG g14)
theorem C5 : IAgree Try.prog M5 := agree1 hT hmix hF C4 (by decide) F14 fun x r hs => by
  split at hs
  · rename_i hc; cases hs; exact finPB2 (run14 (I := M4) rfl rfl x 0 hc).to
  · cases hs
noncomputable def M6 := addI M5 81 (pureG g81)
theorem C6 : IAgree Try.prog M6 := agree1 hT hmix hF C5 (by decide) F81 fun x r hs => by
  split at hs
  · rename_i hc; cases hs; exact finPB2 (run81 (I := M5)  rfl x 0 hc).to
  · cases hs
noncomputable def M7 := addI M6 19 (pureG g19)
theorem C7 : IAgree Try.prog M7 := agree2 hT hmix hF C6 (by decide) F19 fun x y r hs => by
  split at hs
  · rename_i hc; cases hs; exact fin (run19  rfl x y 0 hc.1 hc.2) (fun h => by simp [frzF, AV.flat])
  · cases hs
noncomputable def M8 := addI M7 18 (pureG g18)
theorem C8 : IAgree Try.prog M8 := agree2 hT hmix hF C7 (by decide) F18 fun x y r hs => by
  split at hs
  · rename_i hc; cases hs; exact fin18 (run18 (I := M7) rfl rfl rfl rfl x y 0 hc)
  · cases hs
end Go.AM.X
namespace Go.AM.X
open Go Go.AM Go.Proofs Go.AM.Sx
set_option maxHeartbeats 400000
set_option maxRecDepth 100000
set_option linter.unusedVariables false
theorem F98 : F 98 = some { body := (Try.f98.body.getD .skip), results := Try.f98.results.toList, rf := false } := by kernel_rfl
theorem F60 : F 60 = some { body := (Try.f60.body.getD .skip), results := Try.f60.results.toList, rf := false } := by kernel_rfl
theorem mul1 : call F M8 T 10 98 [.int .u64 1, .int .u64 1] e0 = some (.tup [.int .u64 0, .int .u64 1], e0) := by kernel_rfl
theorem mul2 : call F M8 T 10 98 [.int .u64 1, .int .u64 2] e0 = some (.tup [.int .u64 0, .int .u64 2], e0) := by kernel_rfl
theorem mul3 : call F M8 T 10 98 [.int .u64 1, .int .u64 3] e0 = some (.tup [.int .u64 0, .int .u64 3], e0) := by kernel_rfl
def vU : View Int := vInt .u64
noncomputable def g98 := G2 vU vU fun a b => if a = 1 ∧ (b = 1 ∨ b = 2 ∨ b = 3) then some (.tup [.int .u64 0, .int .u64 b]) else none
noncomputable def M9 := addI M8 98 (pureG g98)
theorem C9 : IAgree Try.prog M9 := agree2 hT hmix hF C8 (by decide) F98 fun x y r hs => by
  split at hs
  · rename_i hc
    cases hs
    obtain ⟨rfl, hy⟩ := hc
    rcases hy with rfl | rfl | rfl
    · exact fin ⟨_, mul1⟩ (fun h => by simp [frzF, frzMap, AV.flat])
    · exact fin ⟨_, mul2⟩ (fun h => by simp [frzF, frzMap, AV.flat])
    · exact fin ⟨_, mul3⟩ (fun h => by simp [frzF, frzMap, AV.flat])
  · cases hs
/-! what makes and copies -/
section
variable {C : Cf} {T : TT} {e : Env} {h : AH} {dst : Option Nat} {type : TypeId} {pos : String} {after : Array Edge} {guard : Option (Nat × Bool)}
end
end Go.AM.X
namespace Go.AM.X
open Go Go.AM Go.Proofs Go.AM.Sx
set_option maxHeartbeats 800000
set_option maxRecDepth 100000
set_option linter.unusedVariables false
/-! One number, repeated. -/
noncomputable def rep60 (a n : Int) : Option AV := match call F M9 T 30 60 [.lst true 1 1 [.int .i64 a], .int .i64 n] e0 with
  | some (v, h) => frzN 3 h v
  | none => none
theorem rep1 (a : Int) : rep60 a 1 = some (.lst true 1 1 [.int .i64 a]) := by kernel_rfl
theorem rep2 (a : Int) : rep60 a 2 = some (.lst true 1 2 [.int .i64 a, .int .i64 a]) := by kernel_rfl
theorem rep3 (a : Int) : rep60 a 3 = some (.lst true 1 3 [.int .i64 a, .int .i64 a, .int .i64 a]) := by kernel_rfl
noncomputable def g60 : List AV → Option AV
  | [.lst true 1 1 [.int .i64 a], .int .i64 n] => if n = 1 ∨ n = 2 ∨ n = 3 then some (.lst true 1 n.toNat (List.replicate n.toNat (.int .i64 a))) else none
  | _ => none
theorem rep60_run {a n : Int} {v : AV} (h : rep60 a n = some v) : ∃ v1 h1, call F M9 T 30 60 [.lst true 1 1 [.int .i64 a], .int .i64 n] e0 = some (v1, h1) ∧ frzN 3 h1 v1 = some v := by
  unfold rep60 at h
  split at h
  · rename_i v1 h1 hc; exact ⟨v1, h1, hc, h⟩
  · cases h
noncomputable def M10 := addI M9 60 (pureN g60)
theorem C10 : IAgree Try.prog M10 := by
  obtain ⟨fi, hfi⟩ : ∃ fi, F 60 = some fi := ⟨_, F60⟩
  refine pureN_agree hT hmix hF C9 (by decide) fi hfi fun args v hg hfl => ?_
  unfold g60 at hg
  split at hg
  · rename_i a n
    split at hg
    · rename_i hc
      cases hg
      rcases hc with rfl | rfl | rfl
      · obtain ⟨v1, h1, h2, h3⟩ := rep60_run (rep1 a); exact ⟨_, 30, 3, h1, v1, _, WkL.refl _, h2, h3, Wk.refl _⟩
      · obtain ⟨v1, h1, h2, h3⟩ := rep60_run (rep2 a); exact ⟨_, 30, 3, h1, v1, _, WkL.refl _, h2, h3, Wk.refl _⟩
      · obtain ⟨v1, h1, h2, h3⟩ := rep60_run (rep3 a); exact ⟨_, 30, 3, h1, v1, _, WkL.refl _, h2, h3, Wk.refl _⟩
    · cases hg
  · cases hg
theorem K60r {I : Nat → Option (List AV → AH → Rs)} (h60 : I 60 = some (pureN g60)) (m : Nat) (b n : Nat) (a : Int) (h : AH) (hb : h.get b = some (.cells [.int .i64 a] .own)) (hn : 1 ≤ n ∧ n ≤ 3) :
    call F I T (m + 1) 60 [.sl b 0 1 1 1 true, .int .i64 (n : Nat)] h = some (.lst true 1 n (List.replicate n (.int .i64 a)), h) := by
  rw [call_I (by decide) h60]
  have h1 : frzMap (frzF true 9 h) [.sl b 0 1 1 1 true, .int .i64 (n : Nat)] = some [.lst true 1 1 [.int .i64 a], .int .i64 (n : Nat)] := by
    simp [frzMap, frzF, hb, AV.flat]
  have h2 : ((n : Int) = 1 ∨ (n : Int) = 2 ∨ (n : Int) = 3) := by omega
  simp only [pureN, h1, g60]
  rw [if_pos h2]
  simp
/-! Chunks of three. -/
theorem F59 : F 59 = some { body := (Try.f59.body.getD .skip), results := Try.f59.results.toList, rf := false } := by kernel_rfl
theorem R59 : regsOk T (Try.f59.body.getD .skip) = true := by kernel_rfl
theorem F97 : F 97 = some { body := (Try.f97.body.getD .skip), results := Try.f97.results.toList, rf := false } := by kernel_rfl
theorem R97 : regsOk T (Try.f97.body.getD .skip) = true := by kernel_rfl
theorem run97 {I : Nat → Option (List AV → AH → Rs)} (h97 : I 97 = none) (l : List (List UInt8)) (m L b2 b3 : Nat) (J : Nat → AH → Prop) (H0 : AH) (hl : l.length ≤ 900)
    (hbox : ∀ j H, J j H → H.get b2 = some (.cells [.lst false 1 l.length (l.map .str)] .own) ∧ H.get b3 = some (.cells [.int .i64 3] .own))
    (hstep : ∀ j H, 3 * j < l.length → J j H → ∃ H', call F I T (m + 1000) YLD [.yld L, .lst true 1 (min 3 (l.length - 3 * j)) (((l.drop (3 * j)).take 3).map .str)] H = some (.bool true, H') ∧ J (j + 1) H')
    (h0 : J 0 H0) : ∃ H', call F I T (m + 1001) 97 [.yld L, .ptr b2 0, .ptr b3 0] H0 = some (.tup [], H') ∧ J ((l.length + 2) / 3) H' := by
  rw [call_F (by decide) h97 F97 rfl R97]; simp only [Try.f97, Option.getD]
  simp +contextual (maxSteps := 3000000) only [↓code_seq, ↓code_region, ↓code_block, ↓code_loop, ↓ops_nil, ↓ops_cons, run_none, ↓run0_v, ↓seqK_normal, ev_const, oc_int, o_assign, g_none]
  refine iterL_wp (Q := fun r => ∃ H', r = some (.tup [], H') ∧ J ((l.length + 2) / 3) H') (N := (l.length + 2) / 3) (Inv := fun k e h' => ∃ j, k + j = (l.length + 2) / 3 ∧ 3 * j < l.length + 3 ∧ J j h' ∧ e 0 = .yld L ∧ e 1 = .ptr b2 0 ∧ e 2 = .ptr b3 0 ∧ e 4 = .int .i64 ((3 * j : Nat) : Int)) ?_ ?_ (by omega)
  · rintro k e h' K' ⟨j, hk, hj, hJ, e0, e1, e2, e4⟩ hnext hexit
    obtain ⟨g2, g3⟩ := hbox j h' hJ
    by_cases hi : 3 * j < l.length
    · have c1 : ((3 * j : Nat) : Int) < (l.length : Int) := by omega
      have c2 : aSlice T 23 (.lst false 1 l.length (l.map .str)) (some (.int .i64 ((3 * j : Nat) : Int))) none none = some (.lst (false && Nat.beq l.length l.length) 1 (l.length - 3 * j) (((l.map AV.str).drop (3 * j * 1)).take ((l.length - 3 * j) * 1))) :=
        sl_lst T23 d23 T9 s9 (by rfl) (by simp only [bnd]; rw [if_pos (by omega)]; rfl) (by omega) (Nat.le_refl _)
      obtain ⟨w, hw⟩ : ∃ w, w = min 3 (l.length - 3 * j) := ⟨_, rfl⟩
      have c3 : aMin (.int .i64 3) (.int .i64 ((l.length - 3 * j : Nat) : Int)) = some (.int .i64 (w : Int)) := by
        simp only [aMin]
        split <;> (simp only [Option.some.injEq, AV.int.injEq, true_and]; omega)
      have c4 : IntKind.i64.wrap (((3 * j : Nat) : Int) + (w : Int)) = ((3 * j + w : Nat) : Int) := by rw [wrap_i64 (by omega) (by omega)]; omega
      have c5 : aSlice T 23 (.lst false 1 l.length (l.map .str)) (some (.int .i64 ((3 * j : Nat) : Int))) (some (.int .i64 ((3 * j + w : Nat) : Int))) (some (.int .i64 ((3 * j + w : Nat) : Int))) = some (.lst true 1 w (((l.drop (3 * j)).take 3).map .str)) := by
        simp only [aSlice, T23, d23, T9, s9, bnd]
        have q1 : (0 : Int) ≤ ((3 * j + w : Nat) : Int) := by omega
        have q2 : (0 : Int) ≤ ((3 * j : Nat) : Int) := by omega
        have q3 : ((3 * j + w : Nat) : Int).toNat = 3 * j + w := rfl
        have q4 : ((3 * j : Nat) : Int).toNat = 3 * j := rfl
        simp only [q1, q2, q3, q4, if_true]
        rw [if_pos ⟨by omega, by omega, by omega, trivial, by simp⟩]
        have q5 : 3 * j + w - 3 * j = w := by omega
        have q6 : Nat.beq (3 * j + w) (3 * j + w) = true := by simp
        simp only [Option.isSome_some, cond_true, q5, q6, Nat.mul_one]
        have q7 : ((l.map AV.str).drop (3 * j)).take w = ((l.drop (3 * j)).take 3).map .str := by
          rw [← List.map_drop, ← List.map_take]
          congr 1
          by_cases h3 : 3 ≤ l.length - 3 * j
          · have : w = 3 := by omega
            rw [this]
          · rw [List.take_of_length_le (by simp; omega), List.take_of_length_le (by simp; omega)]
        rw [q7]
      have c6 : IntKind.i64.wrap (((3 * j : Nat) : Int) + 3) = ((3 * (j + 1) : Nat) : Int) := by rw [wrap_i64 (by omega) (by omega)]; omega
      obtain ⟨H', hc, hJ'⟩ := hstep j h' hi hJ
      rw [← hw] at hc
      simp +contextual (maxSteps := 3000000) only [↓code_skip, ↓code_seq, ↓code_region, ↓code_cond, ↓code_block, aCond_bool, ↓ops_nil, ↓ops_cons, run_none, ↓run0_v, ↓run0_r, ↓seqK_normal, ↓blkK_normal, put_same, put_ne, ev_tmp, o_move, o_assign, o_bin, o_call, o_len, o_load, o_un, o_slice, o_min, g_none, bin_add, bin_lss, un_not, Option.map_some, Option.map_none, decide_eq_true_eq, ↓reduceIte, Nat.reduceEqDiff, not_false_eq_true, reduceCtorEq, List.getElem?_cons_zero, Bool.false_eq_true, List.map_cons, List.map_nil, Bool.not_true, ne_eq, load_p1 T23 a23, loadc_def, len_lst T23 d23, load_p1 T3 a3, e0, e1, e2, e4, g2, g3, c1, c2, c3, c4, c5, hc, callV_yld]
      obtain ⟨g4, g5⟩ := hbox (j + 1) H' hJ'
      simp +contextual (maxSteps := 3000000) only [↓run0_v, bin_add, List.getElem?_cons_zero, g5, c6]
      refine hnext (k - 1) _ _ (by omega) ⟨j + 1, by omega, ?_, ?_, ?_, ?_, ?_, ?_⟩
      · omega
      · exact hJ'
      · simp only [put_ne, not_false_eq_true, reduceCtorEq, ne_eq, e0]
      · simp only [put_ne, Nat.reduceEqDiff, not_false_eq_true, ne_eq, e1]
      · simp only [put_ne, Nat.reduceEqDiff, not_false_eq_true, ne_eq, e2]
      · simp only [put_same]; try rfl
    · have c1 : ¬ ((3 * j : Nat) : Int) < (l.length : Int) := by omega
      have hjj : j = (l.length + 2) / 3 := by omega
      simp +contextual (maxSteps := 3000000) only [↓code_seq, ↓code_region, ↓code_cond, ↓code_exit, aCond_bool, ↓ops_nil, ↓ops_cons, run_none, ↓run0_v, ↓seqK_normal, ↓seqK_exit, put_same, put_ne, ev_tmp, o_move, o_bin, o_len, o_load, g_none, bin_lss, decide_eq_true_eq, ↓reduceIte, Nat.reduceEqDiff, not_false_eq_true, List.getElem?_cons_zero, ne_eq, load_p1 T23 a23, loadc_def, len_lst T23 d23, e1, e4, g2, c1]
      refine hexit _ _ _ (by simp) ⟨h', ?_, by rw [← hjj]; exact hJ⟩
      simp +contextual (maxSteps := 3000000) only [↓blkK_exit, ↓retK_normal, resultsOf, oneOrAll, Option.map_some, ↓reduceIte]
  · refine ⟨0, by omega, ?_, ?_, ?_, ?_, ?_, ?_⟩
    · omega
    · exact h0
    · simp only [put_ne, env0_at, Option.getD_some, not_false_eq_true, reduceCtorEq, List.getElem?_cons_zero, ne_eq]
    · simp only [put_ne, env0_at, Option.getD_some, Nat.reduceEqDiff, not_false_eq_true, List.getElem?_cons_zero, List.getElem?_cons_succ, ne_eq]
    · simp only [put_ne, env0_at, Option.getD_some, Nat.reduceEqDiff, not_false_eq_true, List.getElem?_cons_zero, List.getElem?_cons_succ, ne_eq]
    · simp only [put_same, Nat.reduceMul]; try rfl
end Go.AM.X
