/- Pieces, gathered: the chain, and what is gathered of the pieces of a list. Own work. -/
import Derived.Test.YtdehanhonfbdpaaZbkI
namespace Go.AM.X.P
open Go Go.AM Go.Proofs Go.AM.Sx Go.AM.X
set_option maxHeartbeats 1600000
set_option maxRecDepth 100000
set_option linter.unusedVariables false
/-! The union. -/
theorem len_sub : ∀ {a b : List (List UInt8)}, a.Nodup → (∀ x ∈ a, x ∈ b) → a.length ≤ b.length
  | [], _, _, _ => Nat.zero_le _
  | x :: a, b, hn, h => by
    have hx := h x (by simp)
    obtain ⟨n1, n2⟩ := List.nodup_cons.1 hn
    have ih := len_sub (b := b.erase x) n2 (fun y hy => (List.mem_erase_of_ne (fun e => n1 (by rw [← e]; exact hy))).2 (h y (by simp [hy])))
    rw [List.length_erase_of_mem hx] at ih
    have := List.length_pos_of_mem hx
    simp only [List.length_cons]; omega
theorem nodup_of_map {f : List UInt8 → List UInt8} : ∀ {l : List (List UInt8)}, (l.map f).Nodup → l.Nodup
  | [], _ => List.nodup_nil
  | x :: l, h => by
    obtain ⟨h1, h2⟩ := List.nodup_cons.1 h
    exact List.nodup_cons.2 ⟨fun hx => h1 (List.mem_map_of_mem hx), nodup_of_map h2⟩
theorem inj_of_map {f : List UInt8 → List UInt8} : ∀ {l : List (List UInt8)}, (l.map f).Nodup → ∀ {x y}, x ∈ l → y ∈ l → f x = f y → x = y
  | z :: l, h, x, y, hx, hy, he => by
    obtain ⟨h1, h2⟩ := List.nodup_cons.1 h
    rcases List.mem_cons.1 hx with hx1 | hx1
    · rcases List.mem_cons.1 hy with hy1 | hy1
      · rw [hx1, hy1]
      · exact absurd (by rw [← hx1, he]; exact List.mem_map_of_mem hy1) h1
    · rcases List.mem_cons.1 hy with hy1 | hy1
      · exact absurd (by rw [← hy1, ← he]; exact List.mem_map_of_mem hx1) h1
      · exact inj_of_map h2 hx1 hy1 he
theorem okFrom_fold : ∀ {l pre : List (List UInt8)}, okFrom pre l = true → (∀ x ∈ l, ∀ p ∈ pre, fold p ≠ fold x) ∧ (l.map fold).Nodup
  | [], _, _ => ⟨fun x hx => (by cases hx), List.nodup_nil⟩
  | y :: l, pre, h => by
    simp only [okFrom, Bool.and_eq_true, Bool.not_eq_true', List.any_eq_false] at h
    obtain ⟨⟨_, h2⟩, h3⟩ := h
    obtain ⟨i1, i2⟩ := okFrom_fold h3
    refine ⟨fun x hx p hp => ?_, ?_⟩
    · rcases List.mem_cons.1 hx with rfl | hx
      · have := h2 p hp
        simpa [equal] using this
      · exact i1 x hx p (by simp [hp])
    · rw [List.map_cons]
      refine List.nodup_cons.2 ⟨fun hm => ?_, i2⟩
      obtain ⟨x, hx, he⟩ := List.mem_map.1 hm
      exact i1 x hx y (by simp) he.symm
theorem any_eq {u : List (List UInt8)} {z : List UInt8} : (u.any (equal · z) = true) ↔ fold z ∈ u.map fold := by
  simp only [List.any_eq_true, equal, decide_eq_true_eq, List.mem_map]
theorem uni_nodup : ∀ {a u : List (List UInt8)}, (u.map fold).Nodup → ((uni u a).map fold).Nodup
  | [], u, h => h
  | z :: a, u, h => by
    simp only [uni]
    split
    · exact uni_nodup h
    · rename_i hz
      refine uni_nodup ?_
      rw [List.map_append, List.map_cons, List.map_nil]
      refine List.nodup_append.2 ⟨h, by simp, fun x hx y hy he => ?_⟩
      simp at hy
      rw [any_eq] at hz
      exact hz (by rw [← hy, ← he]; exact hx)
theorem uni_sub : ∀ {a u : List (List UInt8)} {x : List UInt8}, x ∈ u → x ∈ uni u a
  | [], u, x, h => h
  | z :: a, u, x, h => by
    simp only [uni]
    split
    · exact uni_sub h
    · exact uni_sub (by simp [h])
theorem uni_cov : ∀ {a u : List (List UInt8)} {z : List UInt8}, z ∈ a → fold z ∈ (uni u a).map fold
  | y :: a, u, z, h => by
    simp only [uni]
    rcases List.mem_cons.1 h with rfl | h
    · split
      · rename_i hz
        rw [any_eq] at hz
        obtain ⟨x, hx, he⟩ := List.mem_map.1 hz
        rw [← he]; exact List.mem_map_of_mem (uni_sub hx)
      · exact List.mem_map_of_mem (uni_sub (by simp))
    · split <;> exact uni_cov h
theorem uni_whole {l A : List (List UInt8)} (hl : okFrom [] l = true) (hA : ∀ z ∈ A, z ∈ l) : (uni [] (A ++ l)).length = l.length ∧ ∀ z ∈ l, z ∈ uni [] (A ++ l) := by
  obtain ⟨_, hn⟩ := okFrom_fold hl
  have hU : ((uni [] (A ++ l)).map fold).Nodup := uni_nodup List.nodup_nil
  have hs : ∀ x ∈ uni [] (A ++ l), x ∈ l := fun x hx => by
    rcases uni_mem hx with h | h
    · cases h
    · rcases List.mem_append.1 h with h | h
      · exact hA x h
      · exact h
  have hc : ∀ z ∈ l, z ∈ uni [] (A ++ l) := fun z hz => by
    obtain ⟨x, hx, he⟩ := List.mem_map.1 (uni_cov (u := []) (a := A ++ l) (z := z) (by simp [hz]))
    rw [← inj_of_map hn (hs x hx) hz he]; exact hx
  exact ⟨Nat.le_antisymm (len_sub (nodup_of_map hU) hs) (len_sub (nodup_of_map hn) hc), hc⟩
def grp (l : List (List UInt8)) (q : Nat) : List (List UInt8) := (l.drop (3 * q)).take 3
theorem grp_flat (l : List (List UInt8)) : ∀ c, ((List.range c).map (grp l)).flatten = l.take (3 * c)
  | 0 => by simp
  | c + 1 => by
    rw [List.range_succ, List.map_append, List.flatten_append, grp_flat l c]
    simp only [List.map_cons, List.map_nil, List.flatten_cons, List.flatten_nil, List.append_nil, grp]
    rw [show 3 * (c + 1) = 3 * c + 3 by omega, List.take_add]
theorem pieces_grp (net : Int) (l : List (List UInt8)) (c : Nat) : pieces net l c = bsOf net l.length ((List.range c).map (grp l)) := by
  simp only [pieces, bsOf, List.map_map]; rfl
/-! The chain: functions whose answers are values, also where they read memory. -/
noncomputable def runN (I : Nat → Option (List AV → AH → Rs)) (n f : Nat) : List AV → Option AV := fun args => match call F I T n f args e0 with
  | some (v, h) => frzN 4 h v
  | none => none
theorem runN_agree {I : Nat → Option (List AV → AH → Rs)} (hI : IAgree Try.prog I) {n f : Nat} (hfY : Nat.beq f YLD = false) {fi : FI} (hFf : F f = some fi) : IAgree Try.prog (addI I f (pureN (runN I n f))) := by
  refine pureN_agree hT hmix hF hI hfY fi hFf fun args v hg _ => ?_
  unfold runN at hg
  split at hg
  · rename_i v1 h1 hc; exact ⟨args, n, 4, h1, v1, v, WkL.refl _, hc, hg, Wk.refl _⟩
  · cases hg
def delI (I : Nat → Option (List AV → AH → Rs)) (f : Nat) : Nat → Option (List AV → AH → Rs) := fun n => bif Nat.beq n f then none else I n
theorem delI_agree {I : Nat → Option (List AV → AH → Rs)} (hI : IAgree Try.prog I) (f : Nat) : IAgree Try.prog (delI I f) := ⟨fun k g hk => by
  unfold delI at hk
  cases hb : Nat.beq k f with
  | true => rw [hb] at hk; cases hk
  | false => rw [hb] at hk; exact hI.fn k g hk⟩
theorem KN {I I0 : Nat → Option (List AV → AH → Rs)} {n f : Nat} (hf : I f = some (pureN (runN I0 n f))) (hfY : Nat.beq f YLD = false) {args bs : List AV} {v : AV} {h : AH} (m : Nat) (h1 : frzMap (frzF true 9 h) args = some bs) (h2 : runN I0 n f bs = some v) :
    call F I T (m + 1) f args h = some (v, h) := by
  rw [call_I hfY hf]
  simp only [pureN, h1, h2, Option.map_some]
theorem frzN_row {k : Nat} {h : AH} {v : AV} {n : Nat} {cs cs' : List AV} (hr : RowE 1 h v n cs) (hn : 0 < n) (hf : frzMap (frzN k h) cs = some cs') : ∃ ex, frzN (k + 1) h v = some (.lst ex 1 n cs') := by
  rcases hr with (⟨rfl, h1, h2⟩ | ⟨b, rfl, h1, h2, h3, h4⟩) | ⟨b, rfl, h1, h2, h3, h4⟩
  · omega
  · have h5 : List.take (n * 1) (List.drop 0 cs) = cs := by rw [List.drop_zero, List.take_of_length_le (by omega)]
    refine ⟨false && Nat.beq n n, ?_⟩
    simp only [frzN, h4, h5, hf]
    rw [if_pos (by omega)]
    rfl
  · have h5 : List.take (n * 1) (List.drop 0 cs) = cs := by rw [List.drop_zero, List.take_of_length_le (by omega)]
    refine ⟨true && Nat.beq n n, ?_⟩
    simp only [frzN, h4, h5, hf]
    rw [if_pos (by omega)]
    rfl
theorem frzN_bytes {k : Nat} {h : AH} (l : List UInt8) : frzMap (frzN (k + 1) h) (ofBytes l) = some (ofBytes l) := frzMap_same fun a ha => by
  obtain ⟨x, _, rfl⟩ := List.mem_map.1 ha
  simp [frzN, AV.scal]
theorem frzN_strs {k : Nat} {h : AH} (l : List (List UInt8)) : frzMap (frzN (k + 1) h) (l.map .str) = some (l.map .str) := frzMap_same fun a ha => by
  obtain ⟨x, _, rfl⟩ := List.mem_map.1 ha
  simp [frzN, AV.scal]
/-- How a row reads as an argument. -/
theorem frzF_row {k : Nat} {h : AH} {v : AV} {n : Nat} {cs cs' : List AV} (hr : Row 1 h v n cs) (hn : 0 < n) (hf : frzMap (frzF true k h) cs = some cs') : frzF true (k + 1) h v = some (.lst false 1 n cs') := by
  rcases hr with ⟨rfl, h1, h2⟩ | ⟨b, rfl, h1, h2, h3, h4⟩
  · omega
  · exact frz_sl h4 h2 hf
theorem frz_ints {k : Nat} {h : AH} (l : List Int) : frzMap (frzF true (k + 1) h) (l.map (.int .i64)) = some (l.map (.int .i64)) := frzMap_map (f := AV.int .i64) fun _ => by simp [frzF, AV.flat]
theorem frz_encs {k : Nat} {h : AH} (l : List (List UInt8)) : frzMap (frzF true (k + 1) h) (l.map vB.enc) = some (l.map vB.enc) := frzMap_map (f := vB.enc) fun x => frzF_flatV rfl (vB.flat x)
/-- What is put, of good networks and zones. -/
theorem run15n {I : Nat → Option (List AV → AH → Rs)} (h49 : I 49 = some (pureG g49)) (h51 : I 51 = none) (h54 : I 54 = none) (h55 : I 55 = some (pureG g55)) (h22 : I 22 = none) (h56 : I 56 = none) (h52 : I 52 = some (pureG g52)) (h81 : I 81 = some (pureG g81)) (h57 : I 57 = none) (h15 : I 15 = none) (a : List Int) (c : List (List UInt8)) (m : Nat) (q0 : a.length = c.length) (ha : areNets a = true) (q4 : c.any (!isZone ·) = false) (hz : small c) :
    PB (rep 2 a.length (a.zip c), 0) (call F I T (m + 300) 15 [.lst false 1 a.length (a.map (.int .i64)), .lst false 1 c.length (c.map .str)] e0) := by
  obtain ⟨⟨l1, l2⟩, q3, hall⟩ := areNets_mem ha
  have kk := fun m (h : AH) => K49 h49 m a true false h (by omega)
  have k2 : ∀ m (h : AH), call F I T (m + 1) 49 [.lst false 1 a.length (a.map (.int .i64)), .fn 54 [] []] h = some (.bool (noNet a), h) := kk
  have k3 := fun m (h : AH) => K55 h55 m c false h hz
  rw [q3] at k2
  rw [q4] at k3
  obtain ⟨h2, v2, hc2, hw2, _⟩ := run57h h52 h81 h57 2 a.length (a.zip c) (.lst false 1 a.length (a.map (.int .i64))) false e0 (m + 89) (by omega) (okP_of q0 ha q4) (by
    rw [List.map_fst_zip (by omega)]; exact RdI.lst rfl)
  rw [lSnd_zip q0, len_zip q0] at hc2
  have hc3 : call F I T (m + 299) 57 [.int .u8 2, .int .i64 a.length, .lst false 1 a.length (a.map (.int .i64)), .lst false 1 c.length (c.map .str)] e0 = some (v2, h2) := by rw [← q0]; exact hc2
  have r0 : ((a.length : Nat) : Int) = (c.length : Nat) := by omega
  have r1 : ¬ ((a.length : Nat) : Int) < 1 := by omega
  have r2 : ¬ (100 : Int) < ((a.length : Nat) : Int) := by omega
  rw [call_F (by decide) h15 F15 rfl R15]; simp only [Try.f15, Option.getD]
  simp +contextual (maxSteps := 3000000) only [↓code_skip, ↓code_seq, ↓code_region, ↓code_cond, ↓code_ret, aCond_bool, ↓ops_nil, ↓ops_cons, run_none, run_someF, ↓run0_v, ↓run0_r, ↓seqK_normal, ↓retK_ret, put_same, put_ne, env0_at, ev_tmp, ev_const, ev_func, oc_int, oc_bool, oc_nils, o_move, o_assign, o_pick, o_bin, o_call, o_len, g_none, g_some, pick_bool, bin_neq, bin_lss, bin_gtr, resultsOf, oneOrAll, Option.bind_some, Option.map_some, Option.getD_some, ↓reduceIte, Nat.reduceEqDiff, not_false_eq_true, reduceCtorEq, List.getElem?_cons_zero, List.getElem?_cons_succ, List.getElem?_toArray, Bool.false_eq_true, List.map_cons, List.map_nil, List.append_nil, List.nil_append, gt_iff_lt, Bool.not_true, ne_eq, len_lst T22 d22, len_lst T23 d23, callV_fn (g := 49) (by decide), callV_fn (g := 55) (by decide), callV_fn (g := 57) (by decide), decide_eq_true r0, decide_eq_false r1, decide_eq_false r2, k2, k3, hc3]
  exact ⟨_, _, rfl, hw2⟩
noncomputable def Wd := delI (delI (delI (delI M15 57) 58) 13) 15
theorem WdA : IAgree Try.prog Wd := delI_agree (delI_agree (delI_agree (delI_agree C15 _) _) _) _
noncomputable def N1 := addI Wd 102 (pureG g102)
theorem D1 : IAgree Try.prog N1 := agree3 hT hmix hF WdA (by decide) F102 fun x y z r hs => by
  split at hs
  · rename_i hc; cases hs; exact fin (run102 rfl rfl x y z 0 hc.1 hc.2) (fun h => by simp [t3, frzF, frzMap, AV.flat])
  · cases hs
noncomputable def N2 := addI N1 30 (pureG g30)
theorem D2 : IAgree Try.prog N2 := agree2 hT hmix hF D1 (by decide) F30 fun x y r hs => by
  split at hs
  · rename_i hc; cases hs; exact fin (run30  rfl x y 0 hc.1 hc.2) (fun h => by simp [frzF, AV.flat])
  · cases hs
noncomputable def N3 := addI N2 31 (pureG g31)
theorem D3 : IAgree Try.prog N3 := agree2 hT hmix hF D2 (by decide) F31 fun x y r hs => by
  split at hs
  · rename_i hc; cases hs; exact fin (run31  rfl x y 0 hc.1 hc.2) (fun h => by simp [frzF, AV.flat])
  · cases hs
noncomputable def N4 := addI N3 26 (pureG g26)
theorem D4 : IAgree Try.prog N4 := agree1 hT hmix hF D3 (by decide) F26 fun x r hs => by
  split at hs
  · rename_i hc; cases hs
    obtain ⟨h', v, h1, h2⟩ := run26 (I := N3) rfl rfl rfl rfl rfl rfl x 0 hc
    obtain ⟨v0, h3, h4⟩ := h2.frz (al := false) 1 (frzMap_map (f := AV.int .i64) fun _ => by simp [frzF, AV.flat]) (by simp [])
    exact ⟨_, _, _, _, _, h1, frz_tup1 h3, Wk.tup (WkL.cons h4 (WkL.cons (Wk.refl _) WkL.nil))⟩
  · cases hs
noncomputable def N5 := addI N4 28 (pureG g28)
theorem D5 : IAgree Try.prog N5 := agree1 hT hmix hF D4 (by decide) F28 fun x r hs => by
  split at hs
  · rename_i hc; cases hs; exact fin28 (run28 rfl rfl rfl rfl rfl rfl rfl rfl rfl x 0 hc)
  · cases hs
noncomputable def N6 := addI N5 13 (pureN (runN N5 400 13))
theorem D6 : IAgree Try.prog N6 := runN_agree D5 (by decide) F13
noncomputable def N7 := addI N6 15 (pureN (runN N6 400 15))
theorem D7 : IAgree Try.prog N7 := runN_agree D6 (by decide) F15
noncomputable def N8 := addI N7 37 (pureN (runN N7 400 37))
theorem D8 : IAgree Try.prog N8 := runN_agree D7 (by decide) F37
theorem runN_PB {I : Nat → Option (List AV → AH → Rs)} {g : List UInt8 × Int} {n f : Nat} {args : List AV} (hp : PB g (call F I T n f args e0)) (hg : 0 < g.1.length) : ∃ ex, runN I n f args = some (.tup [.lst ex 1 g.1.length (ofBytes g.1), .int .i64 g.2]) := by
  obtain ⟨h', v, h1, h2⟩ := hp
  obtain ⟨ex, h3⟩ := frzN_row (k := 2) h2 hg (frzN_bytes (k := 1) g.1)
  refine ⟨ex, ?_⟩
  have h4 : frzN 3 h' (.int .i64 g.2) = some (.int .i64 g.2) := by simp [frzN, AV.scal]
  simp only [runN, h1]
  show (frzMap (frzN 3 h') [v, .int .i64 g.2]).map AV.tup = _
  simp only [frzMap, h3, h4, Option.map_some]
theorem K13n {l : List Int} (hl : areNets l = true) : ∃ ex, ∀ (m : Nat) (h : AH) (v : AV), Row 1 h v l.length (l.map (.int .i64)) → call F N8 T (m + 1) 13 [v] h = some (.tup [.lst ex 1 (head2 1 l.length ++ l.flatMap be2).length (ofBytes (head2 1 l.length ++ l.flatMap be2)), .int .i64 0], h) := by
  have h0 := run13 (I := N5) rfl rfl rfl rfl rfl l 290 (by have := (areNets_mem hl).1; omega)
  have hG : putQ l = (head2 1 l.length ++ l.flatMap be2, 0) := by simp [putQ, hl]
  rw [hG] at h0
  obtain ⟨ex, h1⟩ := runN_PB h0 (by simp [head2])
  exact ⟨ex, fun m h v hv => KN (I0 := N5) (n := 400) rfl (by decide) m (frzMap_cons (frzF_row hv (by have := (areNets_mem hl).1; omega) (frz_ints l)) frzMap_nil) h1⟩
theorem K15n {a : List Int} {c : List (List UInt8)} (q0 : a.length = c.length) (ha : areNets a = true) (q4 : c.any (!isZone ·) = false) (hz : small c) : ∃ ex, ∀ (m : Nat) (h : AH) (v : AV), Row 1 h v a.length (a.map (.int .i64)) →
    call F N8 T (m + 1) 15 [v, .lst false 1 c.length (c.map .str)] h = some (.tup [.lst ex 1 (rep 2 a.length (a.zip c)).length (ofBytes (rep 2 a.length (a.zip c))), .int .i64 0], h) := by
  have h0 := run15n (I := N6) rfl rfl rfl rfl rfl rfl rfl rfl rfl rfl a c 100 q0 ha q4 hz
  obtain ⟨ex, h1⟩ := runN_PB h0 (by simp [rep, head2])
  refine ⟨ex, fun m h v hv => KN (I0 := N6) (n := 400) rfl (by decide) m (frzMap_cons (frzF_row hv (by have := (areNets_mem ha).1; omega) (frz_ints a)) (frzMap_cons ?_ frzMap_nil)) h1⟩
  exact frzF_flatV rfl (by have : flatL (c.map AV.str) = true := flatL_map (fun _ => rfl) c; simp [AV.flat, this])
theorem K37n {net : Int} {tot : Nat} {gs : List (List (List UInt8))} (hn : isNet net = true) (hto : 1 ≤ tot ∧ tot ≤ 40) (hg : okG gs) (hu : (uni [] gs.flatten).length = tot) :
    ∃ ex, ∀ (m : Nat) (h : AH) (v : AV), Row 1 h v gs.length ((bsOf net tot gs).map vB.enc) → call F N8 T (m + 1) 37 [v] h = some (.tup [.int .i64 net, .lst ex 1 (uni [] gs.flatten).length ((uni [] gs.flatten).map .str), .int .i64 0], h) := by
  obtain ⟨h', w, h1, h2⟩ := run37 (I := N7) rfl rfl rfl rfl rfl rfl rfl rfl rfl net tot gs 0 hn hto hg hu
  obtain ⟨ex, h3⟩ := frzN_row (k := 2) (.inl h2) (by omega) (frzN_strs (k := 1) _)
  refine ⟨ex, fun m h v hv => KN (I0 := N7) (n := 400) rfl (by decide) m (frzMap_cons (frzF_row hv hg.1 (frz_encs _)) frzMap_nil) ?_⟩
  have h4 : ∀ n, frzN 3 h' (.int .i64 n) = some (.int .i64 n) := fun n => by simp [frzN, AV.scal]
  have h5 : call F N7 T 400 37 [.lst false 1 gs.length ((bsOf net tot gs).map vB.enc)] e0 = _ := h1
  simp only [runN, h5]
  show (frzMap (frzN 3 h') [.int .i64 net, w, .int .i64 0]).map AV.tup = _
  simp only [frzMap, h3, h4, Option.map_some]
end Go.AM.X.P
namespace Go.AM.X.P
open Go Go.AM Go.Proofs Go.AM.Sx Go.AM.X
set_option maxHeartbeats 6400000
set_option maxRecDepth 100000
set_option linter.unusedVariables false
theorem F7 : F 7 = some { body := (Try.f7.body.getD .skip), results := Try.f7.results.toList, rf := false } := by kernel_rfl
theorem R7 : regsOk T (Try.f7.body.getD .skip) = true := by kernel_rfl
theorem K30v {I : Nat → Option (List AV → AH → Rs)} (h30 : I 30 = some (pureG g30)) (m : Nat) (a c : List Int) (ex : Bool) (h : AH) (v : AV) (hv : Row 1 h v c.length (c.map (.int .i64))) (hc : 0 < c.length) (hl : a.length < 140737488355328) (hl2 : c.length < 140737488355328) :
    call F I T (m + 1) 30 [.lst ex 1 a.length (a.map (.int .i64)), v] h = some (.bool (decide (a = c)), h) := by
  rw [call_I (by decide) h30]
  have hf : flatL (a.map (AV.int .i64)) = true := flatL_map (fun _ => rfl) a
  refine pureG_view (bs := [.lst ex 1 a.length (a.map (.int .i64)), .lst false 1 c.length (c.map (.int .i64))]) ?_ (frzMap_cons (frzF_flatV rfl (by simp [AV.flat, hf])) (frzMap_cons (frzF_row hv hc (frz_ints c)) frzMap_nil)) ?_ rfl
  · rcases hv with ⟨rfl, h1, h2⟩ | ⟨b, rfl, h1, h2, h3, h4⟩
    · omega
    · simp [flatL, AV.flat]
  · have h1 := vList_dec (v := vInt .i64) dInt_enc ex a
    have h2 := vList_dec (v := vInt .i64) dInt_enc false c
    show ((vList (vInt .i64)).dec (.lst ex 1 a.length (a.map (vInt .i64).enc))).bind (fun x => ((vList (vInt .i64)).dec (.lst false 1 c.length (c.map (vInt .i64).enc))).bind fun y => _) = _
    rw [h1, h2]
    simp [hl, hl2]
theorem okG_of {l : List (List UInt8)} (hl : isList l = true) {o : List UInt8} (ho : o.length ≤ 60) {c : Nat} (hc : c = (l.length + 2) / 3) :
    okG (o.map (fun x => grp l (x.toNat % c)) ++ (List.range c).map (grp l)) := by
  obtain ⟨l1, l2, l3⟩ := isList_mem hl
  refine ⟨by simp; omega, by simp; omega, fun g hg => ?_⟩
  have h1 : ∀ q, q < c → 1 ≤ (grp l q).length ∧ (grp l q).length ≤ 3 ∧ ∀ z ∈ grp l q, isZone z = true := fun q hq =>
    ⟨by simp [grp]; omega, by simp [grp]; omega, fun z hz => l3 z (List.mem_of_mem_drop (List.mem_of_mem_take hz))⟩
  rcases List.mem_append.1 hg with hg | hg
  · obtain ⟨x, _, rfl⟩ := List.mem_map.1 hg
    exact h1 _ (Nat.mod_lt _ (by omega))
  · obtain ⟨q, hq, rfl⟩ := List.mem_map.1 hg
    exact h1 _ (List.mem_range.1 hq)
theorem areNets_rep {net : Int} (hn : isNet net = true) {k : Nat} (h1 : 1 ≤ k) (h2 : k ≤ 40) : areNets (List.replicate k net) = true := by
  have : noNet (List.replicate k net) = false := by
    simp only [noNet, List.any_eq_false]
    intro x hx
    rw [List.eq_of_mem_replicate hx, hn]; simp
  simp [areNets, this, h1]; omega
theorem run7 (net : Int) (l : List (List UInt8)) (o : List UInt8) (m : Nat) (hl : small l) (ho : o.length < 140737488355328) {I : Nat → Option (List AV → AH → Rs)} (hI : I = N8) (h7 : I 7 = none) (h12 : I 12 = some (pureG g12)) (h17 : I 17 = some (pureG g17)) (h26 : I 26 = some (pureG g26)) (h28 : I 28 = some (pureG g28)) (h30 : I 30 = some (pureG g30)) (h31 : I 31 = some (pureG g31)) :
    ∃ h', call F I T (m + 400) 7 [.int .i64 net, .lst false 1 l.length (l.map .str), .lst false 1 o.length (o.map vByte.enc)] e0 = some (.bool true, h') := by
  rw [call_F (by decide) h7 F7 rfl R7]; simp only [Try.f7, Option.getD]
  by_cases hp : isNet net = true ∧ isList l = true
  case neg =>
    have hP : pcs net l = ([], 2) := by unfold pcs; rw [if_neg hp]
    simp +contextual (maxSteps := 3000000) only [↓code_skip, ↓code_seq, ↓code_region, ↓code_cond, ↓code_block, ↓code_loop, ↓code_ret, aCond_bool, ↓ops_nil, ↓ops_cons, run_none, run_someF, ↓run0_v, ↓run0_r, ↓seqK_normal, ↓seqK_ret, ↓retK_ret, put_same, put_ne, env0_at, ev_tmp, ev_const, ev_func, oc_int, oc_bool, oc_nils, o_move, o_assign, o_pick, o_bin, o_call, o_len, o_extract, g_none, g_some, pick_bool, bin_eql, bin_neq, bin_gtr, extract_tup, resultsOf, oneOrAll, Option.bind_some, Option.map_some, Option.getD_some, decide_eq_true_eq, ↓reduceIte, Nat.reduceEqDiff, not_false_eq_true, reduceCtorEq, List.getElem?_cons_zero, List.getElem?_cons_succ, List.getElem?_toArray, List.map_cons, List.map_nil, List.append_nil, List.nil_append, gt_iff_lt, Bool.not_eq_eq_eq_not, Bool.not_true, ne_eq, decide_eq_false_iff_not, len_lst T25 d25, len_lst T30 d30, List.length_nil, callV_fn (g := 12) (by decide), K12 h12, callV_fn (g := 17) (by decide), K17 h17, hl, hP]
    exact ⟨_, rfl⟩
  have hP : pcs net l = (pieces net l ((l.length + 2) / 3), 0) := by unfold pcs; rw [if_pos hp]
  obtain ⟨hn, hli⟩ := hp
  by_cases h60 : (60 : Int) < (o.length : Int)
  · simp +contextual (maxSteps := 3000000) only [↓code_seq, ↓code_region, ↓code_cond, ↓code_ret, aCond_bool, ↓ops_nil, ↓ops_cons, run_none, run_someF, ↓run0_v, ↓run0_r, ↓seqK_normal, ↓seqK_ret, ↓retK_ret, put_same, put_ne, env0_at, ev_tmp, ev_const, ev_func, oc_int, oc_bool, o_move, o_assign, o_pick, o_bin, o_call, o_len, o_extract, g_none, g_some, pick_bool, bin_neq, bin_gtr, extract_tup, resultsOf, oneOrAll, Option.bind_some, Option.map_some, Option.getD_some, decide_eq_true_eq, ↓reduceIte, Nat.reduceEqDiff, not_false_eq_true, not_true_eq_false, reduceCtorEq, List.getElem?_cons_zero, List.getElem?_cons_succ, List.getElem?_toArray, List.map_cons, List.map_nil, List.append_nil, List.nil_append, gt_iff_lt, Bool.not_eq_eq_eq_not, Bool.not_true, ne_eq, decide_eq_false_iff_not, len_lst T25 d25, callV_fn (g := 12) (by decide), K12 h12, callV_fn (g := 17) (by decide), K17 h17, hl, hP, h60]
    exact ⟨_, rfl⟩
  obtain ⟨l1, l2, l3⟩ := isList_mem hli
  obtain ⟨c, hc⟩ : ∃ c, c = (l.length + 2) / 3 := ⟨_, rfl⟩
  obtain ⟨G, hG⟩ : ∃ G, G = (List.range c).map (grp l) := ⟨_, rfl⟩
  have hGl : G.length = c := by rw [hG]; simp
  have hc1 : 1 ≤ c := by omega
  have hc2 : c ≤ 14 := by omega
  rw [← hc, pieces_grp, ← hG] at hP
  have hbl : (bsOf net l.length G).length = c := by simp [bsOf, hGl]
  obtain ⟨sel, hsel⟩ : ∃ sel, sel = o.map (fun x => grp l (x.toNat % c)) := ⟨_, rfl⟩
  have hsl : sel.length = o.length := by rw [hsel]; simp
  have hokG := okG_of hli (o := o) (by omega) hc
  rw [← hsel, ← hG] at hokG
  have x1 : ¬ ((c : Int) = 0) := by omega
  have hflat : (sel ++ G).flatten = sel.flatten ++ l := by
    rw [List.flatten_append, hG, grp_flat, List.take_of_length_le (by omega)]
  have hok : okFrom [] l = true := by
    simp only [isList, Bool.and_eq_true] at hli
    exact hli.2
  obtain ⟨hU1, hU2⟩ := uni_whole (A := sel.flatten) hok (fun z hz => by
    obtain ⟨g, hg, hz⟩ := List.mem_flatten.1 hz
    rw [hsel] at hg
    obtain ⟨x, _, rfl⟩ := List.mem_map.1 hg
    exact List.mem_of_mem_drop (List.mem_of_mem_take hz))
  rw [← hflat] at hU1 hU2
  obtain ⟨U, hU⟩ : ∃ U, U = uni [] (sel ++ G).flatten := ⟨_, rfl⟩
  obtain ⟨ex, hk37⟩ := K37n (tot := l.length) hn ⟨by omega, by omega⟩ hokG hU1
  rw [← hI] at hk37
  rw [← hU] at hU1 hU2 hk37
  simp +contextual (maxSteps := 3000000) only [↓code_skip, ↓code_seq, ↓code_region, ↓code_cond, ↓code_block, ↓code_loop, aCond_bool, ↓ops_nil, ↓ops_cons, run_none, run_someF, ↓run0_v, ↓run0_r, ↓seqK_normal, put_same, put_ne, env0_at, ev_tmp, ev_const, ev_func, oc_int, oc_bool, oc_nils, o_move, o_assign, o_pick, o_bin, o_call, o_len, o_extract, g_none, g_some, pick_bool, bin_eql, bin_neq, bin_gtr, extract_tup, Option.bind_some, Option.getD_some, decide_eq_true_eq, ↓reduceIte, Nat.reduceEqDiff, not_false_eq_true, not_true_eq_false, reduceCtorEq, List.getElem?_cons_zero, List.getElem?_cons_succ, List.getElem?_toArray, List.map_cons, List.map_nil, List.append_nil, List.nil_append, gt_iff_lt, Bool.not_eq_eq_eq_not, Bool.not_true, ne_eq, decide_eq_false_iff_not, len_lst T25 d25, len_lst T30 d30, callV_fn (g := 17) (by decide), K17 h17, hl, hP, h60, hbl, x1]
  refine iterL_wp (Q := fun r => ∃ h', r = some (.bool true, h')) (N := o.length) (Inv := fun k e h' => ∃ i v, k + i = o.length ∧ Row 1 h' v i ((bsOf net l.length (sel.take i)).map vB.enc) ∧ i ≤ o.length ∧ e 0 = .int .i64 net ∧ e 1 = .lst false 1 l.length (l.map .str) ∧ e 2 = .lst false 1 o.length (o.map vByte.enc) ∧ e 7 = .lst false 1 c ((bsOf net l.length G).map vB.enc) ∧ e 9 = v ∧ e 10 = .int .i64 (i : Nat)) ?_ ?_ (by omega)
  · rintro k e h' K' ⟨i, v, hk, hv, hio, e0, e1, e2, e7, e9, e10⟩ hnext hexit
    by_cases hi : i < o.length
    · have c1 : (i : Int) < (o.length : Int) := by omega
      obtain ⟨x, hx⟩ : ∃ x, x = o[i] := ⟨_, rfl⟩
      have c2 : (List.drop (i * 1) (o.map vByte.enc))[0]? = some (.int .u8 (x.toNat : Nat)) := by rw [hx]; exact drop_map_0 (f := vByte.enc) (List.getElem?_eq_getElem hi)
      have hxb := byte_lt x
      have c3 : IntKind.i64.wrap ((x.toNat : Nat) : Int) = ((x.toNat : Nat) : Int) := wrap_i64 (by omega) (by omega)
      obtain ⟨j, hj⟩ : ∃ j, j = x.toNat % c := ⟨_, rfl⟩
      have hjc : j < c := by rw [hj]; exact Nat.mod_lt _ (by omega)
      have c4 : ((x.toNat : Nat) : Int).tmod (c : Int) = (j : Int) := by rw [Int.tmod_eq_emod_of_nonneg (by omega), hj]; rfl
      have hgj : G[j]? = some (grp l j) := by rw [hG, List.getElem?_map, List.getElem?_range hjc]; rfl
      obtain ⟨b, hb⟩ : ∃ b, b = piece net l.length (grp l j) := ⟨_, rfl⟩
      have c5 : (List.drop (j * 1) ((bsOf net l.length G).map vB.enc))[0]? = some (.lst false 1 b.length (b.map vByte.enc)) := drop_map_0 (f := vB.enc) (by unfold bsOf; rw [List.getElem?_map, hgj, hb]; rfl)
      have c6 : (j : Int) < (c : Int) := by omega
      have hse : bsOf net l.length (sel.take (i + 1)) = bsOf net l.length (sel.take i) ++ [b] := by
        rw [take_snoc (by omega)]
        have : sel[i]'(by omega) = grp l j := by
          have : sel[i]? = some (grp l j) := by rw [hsel, List.getElem?_map, List.getElem?_eq_getElem hi, ← hx, hj]; rfl
          exact (List.getElem?_eq_some_iff.1 this).2
        rw [this, hb]; simp [bsOf]
      obtain ⟨nn, cc, hu⟩ : ∃ nn cc, AV.lst false 1 b.length (b.map vByte.enc) = .lst false 1 nn cc := ⟨_, _, rfl⟩
      have hbe : vB.enc b = .lst false 1 nn cc := hu
      rw [hu] at c5
      obtain ⟨bv, h2, happ, hrow, gv, nv, lv, bbv, kv⟩ := pushB T30 d30 T25 s25 (by rw [b25]; decide) hv (x := .lst false 1 nn cc) rfl (by rw [b25]; unfold maxBytes; omega)
      have c7 : IntKind.i64.wrap ((i : Int) + 1) = ((i + 1 : Nat) : Int) := by rw [wrap_i64 (by omega) (by omega)]; rfl
      simp +contextual (maxSteps := 3000000) only [↓code_skip, ↓code_seq, ↓code_region, ↓code_cond, ↓code_block, aCond_bool, ↓ops_nil, ↓ops_cons, run_none, ↓run0_v, ↓run0_r, ↓seqK_normal, ↓blkK_normal, put_same, put_ne, ev_tmp, ev_const, oc_int, o_move, o_assign, o_bin, o_len, o_buildSlice, o_load, o_convert, o_indexAddr, o_append, g_none, bin_add, bin_rem, bin_lss, Option.bind_some, decide_eq_true_eq, ↓reduceIte, Nat.reduceEqDiff, not_false_eq_true, Nat.reduceAdd, Nat.reduceMul, Nat.succ_ne_self, List.map_cons, List.map_nil, List.append_nil, List.nil_append, and_true, Nat.le_refl, ne_eq, len_lst T25 d25, len_lst T30 d30, ia_lst T25 d25 T5 s5, load_fp1 T5 a5, conv_int T5 T3 d3, ia_lst T30 d30 T25 s25, load_fp1 T25 a25, buildSl T30 d30 T25 (n := 1) (by rw [s25]; decide), s25, z25, parts_eq, fillA, AV.cells, AH.splice, List.take_zero, List.drop_succ_cons, List.drop_nil, List.length_cons, List.length_nil, repl, e2, e7, e9, e10, c1, c2, c3, c4, x1, c5, c6, happ, c7, cast_nonneg, toNat_cast]
      refine hnext (k - 1) _ _ (by omega) ⟨i + 1, .sl bv 0 (i + 1) (i + 1) 1 false, by omega, ?_, ?_, ?_, ?_, ?_, ?_, ?_, ?_⟩
      · rw [hse, List.map_append, List.map_cons, List.map_nil, hbe]; exact hrow
      · omega
      · simp only [put_ne, not_false_eq_true, reduceCtorEq, ne_eq, e0]
      · simp only [put_ne, Nat.reduceEqDiff, not_false_eq_true, ne_eq, e1]
      · simp only [put_ne, Nat.reduceEqDiff, not_false_eq_true, ne_eq, e2]
      · simp only [put_ne, Nat.reduceEqDiff, not_false_eq_true, ne_eq, e7]
      · simp only [put_same, put_ne, Nat.reduceEqDiff, not_false_eq_true, ne_eq]
      · simp only [put_same]
    · have c1 : ¬ (i : Int) < (o.length : Int) := by omega
      rw [take_end (show i = sel.length by omega)] at hv
      obtain ⟨bm, h2, happ, hrow, nm, lm, km⟩ := hv.app T30 d30 T25 (isSrc_sl T30 d30) s25 (by rw [b25]; decide) (m := c) (new := (bsOf net l.length G).map vB.enc) (x := .lst false 1 c ((bsOf net l.length G).map vB.enc))
        (by rw [s25]; exact src_lst) (by omega) (by simp [hbl]) (by simp only [List.all_map]; exact List.all_eq_true.2 fun x _ => rfl) (by rw [b25]; unfold maxBytes; omega)
      have hrow2 : Row 1 h2 (.sl bm 0 (i + c) (i + c) 1 false) (sel ++ G).length ((bsOf net l.length (sel ++ G)).map vB.enc) := by
        have h1 : bsOf net l.length (sel ++ G) = bsOf net l.length sel ++ bsOf net l.length G := by simp [bsOf]
        have h3 : (sel ++ G).length = i + c := by simp; omega
        rw [h1, List.map_append, h3]; exact hrow
      have k37 := fun m => hk37 m h2 _ hrow2
      rw [hU1] at k37
      have y1 : ¬ ((l.length : Int) < 0) := by omega
      simp +contextual (maxSteps := 3000000) only [↓code_seq, ↓code_region, ↓code_cond, ↓code_exit, aCond_bool, ↓ops_nil, ↓ops_cons, run_none, ↓run0_v, ↓seqK_normal, ↓seqK_exit, put_same, put_ne, ev_tmp, o_move, o_bin, o_len, g_none, bin_lss, decide_eq_true_eq, ↓reduceIte, Nat.reduceEqDiff, not_false_eq_true, ne_eq, len_lst T25 d25, e2, e10, c1]
      refine hexit _ _ _ (by simp) ?_
      simp +contextual (maxSteps := 3000000) only [↓code_skip, ↓code_seq, ↓code_region, ↓code_cond, ↓code_block, ↓code_loop, aCond_bool, ↓ops_nil, ↓ops_cons, run_none, run_someF, ↓run0_v, ↓run0_r, ↓seqK_normal, ↓blkK_exit, put_same, put_ne, ev_tmp, ev_const, ev_func, oc_int, oc_bool, o_move, o_assign, o_pick, o_bin, o_call, o_len, o_extract, o_append, g_none, g_some, pick_bool, bin_neq, extract_tup, Option.bind_some, ↓reduceIte, Nat.reduceEqDiff, not_false_eq_true, not_true_eq_false, reduceCtorEq, List.getElem?_cons_zero, List.getElem?_cons_succ, List.getElem?_toArray, List.map_cons, List.map_nil, List.append_nil, List.nil_append, Bool.not_eq_eq_eq_not, Bool.not_true, ne_eq, decide_eq_false_iff_not, len_lst T23 d23, callV_fn (g := 37) (by decide), e0, e1, e7, e9, happ, k37]
      refine iterL_wp (Q := fun r => ∃ h', r = some (.bool true, h')) (N := l.length) (Inv := fun k e h' => ∃ i, k + i = l.length ∧ i ≤ l.length ∧ e 0 = .int .i64 net ∧ e 1 = .lst false 1 l.length (l.map .str) ∧ e 12 = .lst ex 1 l.length (U.map .str) ∧ e 13 = .int .i64 (i : Nat)) ?_ ?_ (by omega)
      · rintro k e h' K' ⟨i, hk, hil, e0, e1, e12, e13⟩ hnext hexit
        by_cases hi : i < l.length
        · have c1 : (i : Int) < (l.length : Int) := by omega
          obtain ⟨z, hz⟩ : ∃ z, z = l[i] := ⟨_, rfl⟩
          have hzU : z ∈ U := hU2 z (by rw [hz]; exact List.getElem_mem hi)
          have c2 : (List.drop (i * 1) (l.map AV.str))[0]? = some (.str z) := by rw [hz]; exact drop_map_0 (f := AV.str) (List.getElem?_eq_getElem hi)
          have c7 : IntKind.i64.wrap ((i : Int) + 1) = ((i + 1 : Nat) : Int) := by rw [wrap_i64 (by omega) (by omega)]; rfl
          simp +contextual (maxSteps := 3000000) only [↓code_skip, ↓code_seq, ↓code_region, ↓code_cond, ↓code_block, ↓code_loop, aCond_bool, ↓ops_nil, ↓ops_cons, run_none, ↓run0_v, ↓seqK_normal, put_same, put_ne, ev_tmp, ev_const, oc_int, oc_bool, o_move, o_assign, o_bin, o_len, g_none, bin_lss, decide_eq_true_eq, ↓reduceIte, Nat.reduceEqDiff, not_false_eq_true, ne_eq, len_lst T23 d23, e1, e13, c1]
          have hnext0 := hnext
          have hexit0 := hexit
          obtain ⟨k0, hk0⟩ : ∃ k0, k0 = k := ⟨k, rfl⟩
          rename AH => H
          refine iterL_wp (Q := fun r => ∃ h', r = some (.bool true, h')) (N := l.length) (Inv := fun k e h' => ∃ q, k + q = l.length ∧ q ≤ l.length ∧ e 0 = .int .i64 net ∧ e 1 = .lst false 1 l.length (l.map .str) ∧ e 12 = .lst ex 1 l.length (U.map .str) ∧ e 13 = .int .i64 (i : Nat) ∧ e 14 = .bool (decide (z ∈ U.take q)) ∧ e 15 = .int .i64 (q : Nat)) ?_ ?_ (by omega)
          · rintro k e h' K' ⟨q, hk, hq0, e0, e1, e12, e13, e14, e15⟩ hnext hexit
            by_cases hq : q < l.length
            · have dd1 : (q : Int) < (l.length : Int) := by omega
              have hqU : q < U.length := by omega
              obtain ⟨y, hy⟩ : ∃ y, y = U[q] := ⟨_, rfl⟩
              have dd2 : (List.drop (q * 1) (U.map AV.str))[0]? = some (.str y) := by rw [hy]; exact drop_map_0 (f := AV.str) (List.getElem?_eq_getElem hqU)
              have dd3 : IntKind.i64.wrap ((q : Int) + 1) = ((q + 1 : Nat) : Int) := by rw [wrap_i64 (by omega) (by omega)]; rfl
              have dd4 : U.take (q + 1) = U.take q ++ [y] := by rw [take_snoc hqU, ← hy]
              by_cases dd5 : z ∈ U.take q
              · have dd6 : decide (z ∈ U.take q) = true := decide_eq_true dd5
                have dd7 : z ∈ U.take (q + 1) := by rw [dd4]; simp [dd5]
                rw [dd6] at e14
                simp +contextual (maxSteps := 3000000) only [↓code_skip, ↓code_seq, ↓code_region, ↓code_cond, ↓code_block, aCond_bool, ↓ops_nil, ↓ops_cons, run_none, run_someF, ↓run0_v, ↓seqK_normal, ↓blkK_normal, put_same, put_ne, ev_tmp, ev_const, oc_int, oc_bool, o_move, o_assign, o_pick, o_bin, o_len, o_load, o_indexAddr, g_none, g_some, pick_bool, bin_add, bin_lss, Option.bind_some, decide_eq_true_eq, ↓reduceIte, Nat.reduceEqDiff, not_false_eq_true, Nat.succ_ne_self, List.getElem?_cons_zero, List.getElem?_cons_succ, List.getElem?_toArray, ne_eq, len_lst T23 d23, e1, e12, e13, e14, e15, dd1, dd3]
                refine hnext (k - 1) _ _ (by omega) ⟨q + 1, by omega, ?_, ?_, ?_, ?_, ?_, ?_, ?_⟩
                · omega
                · simp only [put_ne, not_false_eq_true, reduceCtorEq, ne_eq, e0]
                · simp only [put_ne, Nat.reduceEqDiff, not_false_eq_true, ne_eq, e1]
                · simp only [put_ne, Nat.reduceEqDiff, not_false_eq_true, ne_eq, e12]
                · simp only [put_ne, Nat.reduceEqDiff, not_false_eq_true, ne_eq, e13]
                · rw [decide_eq_true dd7]; simp only [put_same, put_ne, Nat.reduceEqDiff, not_false_eq_true, ne_eq]; try simp
                · simp only [put_same]
              · have dd6 : decide (z ∈ U.take q) = false := decide_eq_false dd5
                rw [dd6] at e14
                by_cases dd8 : y = z
                · have dd7 : z ∈ U.take (q + 1) := by rw [dd4]; simp [dd8]
                  simp +contextual (maxSteps := 3000000) only [↓code_skip, ↓code_seq, ↓code_region, ↓code_cond, ↓code_block, aCond_bool, ↓ops_nil, ↓ops_cons, run_none, run_someF, ↓run0_v, ↓seqK_normal, ↓blkK_normal, put_same, put_ne, ev_tmp, ev_const, oc_int, oc_bool, o_move, o_assign, o_pick, o_bin, o_len, o_load, o_indexAddr, g_none, g_some, pick_bool, bin_add, bin_lss, str_eql, Option.bind_some, decide_eq_true_eq, ↓reduceIte, Nat.reduceEqDiff, not_false_eq_true, Nat.succ_ne_self, List.getElem?_cons_zero, List.getElem?_cons_succ, List.getElem?_toArray, Bool.false_eq_true, and_true, ne_eq, len_lst T23 d23, ia_lst T23 d23 T9 s9, load_fp1 T9 a9, e1, e12, e13, e14, e15, dd1, dd2, dd3, c1, c2, eq_true dd8, cast_nonneg, toNat_cast]
                  refine hnext (k - 1) _ _ (by omega) ⟨q + 1, by omega, ?_, ?_, ?_, ?_, ?_, ?_, ?_⟩
                  · omega
                  · simp only [put_ne, not_false_eq_true, reduceCtorEq, ne_eq, e0]
                  · simp only [put_ne, Nat.reduceEqDiff, not_false_eq_true, ne_eq, e1]
                  · simp only [put_ne, Nat.reduceEqDiff, not_false_eq_true, ne_eq, e12]
                  · simp only [put_ne, Nat.reduceEqDiff, not_false_eq_true, ne_eq, e13]
                  · rw [decide_eq_true dd7]; simp only [put_same, put_ne, Nat.reduceEqDiff, not_false_eq_true, ne_eq]; try simp
                  · simp only [put_same]
                · have dd7 : ¬ z ∈ U.take (q + 1) := by
                    rw [dd4]; intro hh
                    rcases List.mem_append.1 hh with hh | hh
                    · exact dd5 hh
                    · simp at hh; exact dd8 hh.symm
                  simp +contextual (maxSteps := 3000000) only [↓code_skip, ↓code_seq, ↓code_region, ↓code_cond, ↓code_block, aCond_bool, ↓ops_nil, ↓ops_cons, run_none, run_someF, ↓run0_v, ↓seqK_normal, ↓blkK_normal, put_same, put_ne, ev_tmp, ev_const, oc_int, oc_bool, o_move, o_assign, o_pick, o_bin, o_len, o_load, o_indexAddr, g_none, g_some, pick_bool, bin_add, bin_lss, str_eql, Option.bind_some, decide_eq_true_eq, ↓reduceIte, Nat.reduceEqDiff, not_false_eq_true, Nat.succ_ne_self, List.getElem?_cons_zero, List.getElem?_cons_succ, List.getElem?_toArray, Bool.false_eq_true, and_true, ne_eq, len_lst T23 d23, ia_lst T23 d23 T9 s9, load_fp1 T9 a9, e1, e12, e13, e14, e15, dd1, dd2, dd3, c1, c2, eq_false dd8, cast_nonneg, toNat_cast]
                  refine hnext (k - 1) _ _ (by omega) ⟨q + 1, by omega, ?_, ?_, ?_, ?_, ?_, ?_, ?_⟩
                  · omega
                  · simp only [put_ne, not_false_eq_true, reduceCtorEq, ne_eq, e0]
                  · simp only [put_ne, Nat.reduceEqDiff, not_false_eq_true, ne_eq, e1]
                  · simp only [put_ne, Nat.reduceEqDiff, not_false_eq_true, ne_eq, e12]
                  · simp only [put_ne, Nat.reduceEqDiff, not_false_eq_true, ne_eq, e13]
                  · rw [decide_eq_false dd7]; simp only [put_same, put_ne, Nat.reduceEqDiff, not_false_eq_true, ne_eq]; try simp
                  · simp only [put_same]
            · have dd1 : ¬ (q : Int) < (l.length : Int) := by omega
              rw [take_end (show q = U.length by omega), decide_eq_true hzU] at e14
              simp +contextual (maxSteps := 3000000) only [↓code_seq, ↓code_region, ↓code_cond, ↓code_exit, aCond_bool, ↓ops_nil, ↓ops_cons, run_none, ↓run0_v, ↓seqK_normal, ↓seqK_exit, put_same, put_ne, ev_tmp, o_move, o_bin, o_len, g_none, bin_lss, decide_eq_true_eq, ↓reduceIte, Nat.reduceEqDiff, not_false_eq_true, ne_eq, len_lst T23 d23, e12, e15, dd1]
              refine hexit _ _ _ (by simp) ?_
              simp +contextual (maxSteps := 3000000) only [↓code_skip, ↓code_seq, ↓code_region, ↓code_cond, aCond_bool, ↓ops_nil, ↓ops_cons, run_none, ↓run0_v, ↓seqK_normal, ↓blkK_normal, ↓blkK_exit, put_same, put_ne, ev_tmp, ev_const, oc_int, o_move, o_assign, o_bin, o_un, g_none, bin_add, un_not, ↓reduceIte, Nat.reduceEqDiff, not_false_eq_true, Bool.false_eq_true, Bool.not_true, ne_eq, e13, e14, c7]
              refine hnext0 (k0 - 1) _ _ (by omega) ⟨i + 1, by omega, by omega, ?_, ?_, ?_, ?_⟩
              · simp only [put_ne, not_false_eq_true, reduceCtorEq, ne_eq, e0]
              · simp only [put_ne, Nat.reduceEqDiff, not_false_eq_true, ne_eq, e1]
              · simp only [put_ne, Nat.reduceEqDiff, not_false_eq_true, ne_eq, e12]
              · simp only [put_same]
          · refine ⟨0, by omega, ?_, ?_, ?_, ?_, ?_, ?_, ?_⟩
            · omega
            · simp only [put_ne, not_false_eq_true, reduceCtorEq, ne_eq, e0]
            · simp only [put_ne, Nat.reduceEqDiff, not_false_eq_true, ne_eq, e1]
            · simp only [put_ne, Nat.reduceEqDiff, not_false_eq_true, ne_eq, e12]
            · simp only [put_ne, Nat.reduceEqDiff, not_false_eq_true, ne_eq, e13]
            · simp only [put_same, put_ne, Nat.reduceEqDiff, not_false_eq_true, ne_eq, List.take_zero]; simp
            · simp only [put_same]; rfl
        · have c1 : ¬ (i : Int) < (l.length : Int) := by omega
          simp +contextual (maxSteps := 3000000) only [↓code_seq, ↓code_region, ↓code_cond, ↓code_exit, aCond_bool, ↓ops_nil, ↓ops_cons, run_none, ↓run0_v, ↓seqK_normal, ↓seqK_exit, put_same, put_ne, ev_tmp, o_move, o_bin, o_len, g_none, bin_lss, decide_eq_true_eq, ↓reduceIte, Nat.reduceEqDiff, not_false_eq_true, ne_eq, len_lst T23 d23, e1, e13, c1]
          refine hexit _ _ _ (by simp) ?_
          simp +contextual (maxSteps := 3000000) only [↓code_seq, ↓code_region, ↓code_block, ↓code_loop, ↓ops_nil, ↓ops_cons, run_none, ↓run0_v, ↓seqK_normal, ↓blkK_exit, ev_const, oc_int, oc_nils, o_assign, g_none, ↓reduceIte]
          refine iterL_wp (Q := fun r => ∃ h', r = some (.bool true, h')) (N := l.length) (Inv := fun k e h' => ∃ i v, k + i = l.length ∧ Row 1 h' v i (List.replicate i (.int .i64 net)) ∧ i ≤ l.length ∧ e 0 = .int .i64 net ∧ e 1 = .lst false 1 l.length (l.map .str) ∧ e 16 = v ∧ e 17 = .int .i64 (i : Nat)) ?_ ?_ (by omega)
          · rintro k e h' K' ⟨i, v, hk, hv, hil, e0, e1, e16, e17⟩ hnext hexit
            by_cases hi : i < l.length
            · have c1 : (i : Int) < (l.length : Int) := by omega
              have c7 : IntKind.i64.wrap ((i : Int) + 1) = ((i + 1 : Nat) : Int) := by rw [wrap_i64 (by omega) (by omega)]; rfl
              obtain ⟨bv, h2, happ, hrow, gv, nv, lv, bbv, kv⟩ := pushB T22 d22 T3 s3 (by rw [b3]; decide) hv (x := .int .i64 net) rfl (by rw [b3]; unfold maxBytes; omega)
              simp +contextual (maxSteps := 3000000) only [↓code_skip, ↓code_seq, ↓code_region, ↓code_cond, ↓code_block, aCond_bool, ↓ops_nil, ↓ops_cons, run_none, ↓run0_v, ↓run0_r, ↓seqK_normal, ↓blkK_normal, put_same, put_ne, ev_tmp, ev_const, oc_int, o_move, o_assign, o_bin, o_len, o_buildSlice, o_append, g_none, bin_add, bin_lss, Option.bind_some, decide_eq_true_eq, ↓reduceIte, Nat.reduceEqDiff, not_false_eq_true, Nat.reduceAdd, Nat.reduceMul, reduceCtorEq, Nat.succ_ne_self, List.map_cons, List.map_nil, List.append_nil, List.nil_append, and_true, Nat.le_refl, ne_eq, parts_eq, fillA, AV.cells, AH.splice, List.take_zero, List.drop_succ_cons, List.drop_nil, List.length_cons, List.length_nil, repl, len_lst T23 d23, buildSl T22 d22 T3 (n := 1) (by rw [s3]; decide), s3, z3, e0, e1, e16, e17, c1, happ, c7]
              refine hnext (k - 1) _ _ (by omega) ⟨i + 1, .sl bv 0 (i + 1) (i + 1) 1 false, by omega, ?_, ?_, ?_, ?_, ?_, ?_⟩
              · rw [List.replicate_succ']; exact hrow
              · omega
              · simp only [put_ne, not_false_eq_true, reduceCtorEq, ne_eq, e0]
              · simp only [put_ne, Nat.reduceEqDiff, not_false_eq_true, ne_eq, e1]
              · simp only [put_same, put_ne, Nat.reduceEqDiff, not_false_eq_true, ne_eq]
              · simp only [put_same]
            · have c1 : ¬ (i : Int) < (l.length : Int) := by omega
              have hie : i = l.length := by omega
              obtain ⟨ns, hns⟩ : ∃ ns, ns = List.replicate l.length net := ⟨_, rfl⟩
              have hnl : ns.length = l.length := by rw [hns]; simp
              have hvn : Row 1 h' v ns.length (ns.map (.int .i64)) := by rw [hnl, hns, List.map_replicate, ← hie]; exact hv
              have han : areNets ns = true := by rw [hns]; exact areNets_rep hn (by omega) (by omega)
              have haz : l.any (!isZone ·) = false := List.any_eq_false.2 fun z hz => by simp [l3 z hz]
              obtain ⟨ex1, k15⟩ := K15n hnl han haz hl
              obtain ⟨ex2, k13⟩ := K13n han
              rw [← hI] at k15 k13
              have k15' := fun m => k15 m h' v hvn
              have k13' := fun m => k13 m h' v hvn
              have k28 := fun m => K28 h28 m (rep 2 ns.length (ns.zip l)) ex1 h' (by
                have h1 := okP_of hnl han haz
                have h2 := pr_len h1.2
                have h3 := h1.1
                have h4 : (rep 2 ns.length (ns.zip l)).length = 2 + ((ns.zip l).flatMap pr).length := by simp [rep, head2]; omega
                omega)
              have hzl : (ns.zip l).length = ns.length := len_zip hnl
              have hb28 := backR (l := ns.zip l) ⟨by omega, by omega⟩ (fun x hx => (okP_of hnl han haz).2 x hx)
              rw [hzl] at hb28
              rw [hb28] at k28
              have k26 := fun m => K26 h26 m (head2 1 ns.length ++ ns.flatMap be2) ex2 h' (by
                have := flat_be2 ns
                simp only [List.length_append, head2, List.length_cons, List.length_nil]; omega)
              rw [backQ han] at k26
              have k30 := fun m ex => K30v h30 m ns ns ex h' v hvn (by omega) (by omega) (by omega)
              have k31 := fun m => K31 h31 m l l false false h' (by omega) (by omega)
              have hob : ∀ b : List UInt8, b.map vByte.enc = ofBytes b := fun _ => rfl
              simp only [t3q, hob, hzl, lFst_zip hnl, lSnd_zip hnl, t2q, lInt] at k28 k26
              rw [hnl] at k28
              rw [hnl] at k30 k15' k13' k26
              simp +contextual (maxSteps := 3000000) only [↓code_seq, ↓code_region, ↓code_cond, ↓code_exit, aCond_bool, ↓ops_nil, ↓ops_cons, run_none, ↓run0_v, ↓seqK_normal, ↓seqK_exit, put_same, put_ne, ev_tmp, o_move, o_bin, o_len, g_none, bin_lss, decide_eq_true_eq, ↓reduceIte, Nat.reduceEqDiff, not_false_eq_true, ne_eq, len_lst T23 d23, e1, e17, c1]
              refine hexit _ _ _ (by simp) ?_
              simp +contextual (maxSteps := 3000000) only [↓code_seq, ↓code_region, ↓code_ret, ↓ops_nil, ↓ops_cons, run_none, run_someT, ↓run0_v, ↓run0_r, ↓seqK_normal, ↓blkK_exit, ↓retK_ret, put_same, put_ne, ev_tmp, ev_const, ev_func, oc_int, oc_bool, o_move, o_assign, o_pick, o_bin, o_call, o_extract, g_none, g_some, pick_bool, bin_eql, extract_tup, resultsOf, oneOrAll, Option.bind_some, Option.map_some, ↓reduceIte, Nat.reduceEqDiff, not_false_eq_true, List.getElem?_cons_zero, List.getElem?_cons_succ, List.getElem?_toArray, List.map_cons, List.map_nil, List.append_nil, List.nil_append, ne_eq, callV_fn (g := 12) (by decide), K12 h12, callV_fn (g := 13) (by decide), callV_fn (g := 15) (by decide), callV_fn (g := 26) (by decide), callV_fn (g := 28) (by decide), callV_fn (g := 30) (by decide), callV_fn (g := 31) (by decide), e1, e16, k15', k28, k13', k26, k30, k31, decide_true]
              exact ⟨_, rfl⟩
          · refine ⟨0, .nils, by omega, ?_, ?_, ?_, ?_, ?_, ?_⟩
            · exact Row.nil _ _
            · omega
            · simp only [put_ne, not_false_eq_true, reduceCtorEq, ne_eq, e0]
            · simp only [put_ne, Nat.reduceEqDiff, not_false_eq_true, ne_eq, e1]
            · simp only [put_same, put_ne, Nat.reduceEqDiff, not_false_eq_true, ne_eq]
            · simp only [put_same]; rfl
      · refine ⟨0, by omega, ?_, ?_, ?_, ?_, ?_⟩
        · omega
        · simp only [put_ne, not_false_eq_true, reduceCtorEq, ne_eq, e0]
        · simp only [put_ne, Nat.reduceEqDiff, not_false_eq_true, ne_eq, e1]
        · simp only [put_same, put_ne, Nat.reduceEqDiff, not_false_eq_true, ne_eq]
        · simp only [put_same]; rfl
  · refine ⟨0, .nils, by omega, ?_, ?_, ?_, ?_, ?_, ?_, ?_, ?_⟩
    · (simp only [List.take_zero, bsOf, List.map_nil]; exact Row.nil _ _)
    · omega
    · simp only [put_ne, env0_at, Option.getD_some, not_false_eq_true, reduceCtorEq, List.getElem?_cons_zero, ne_eq]
    · simp only [put_ne, env0_at, Option.getD_some, Nat.reduceEqDiff, not_false_eq_true, List.getElem?_cons_zero, List.getElem?_cons_succ, ne_eq]
    · simp only [put_ne, env0_at, Option.getD_some, Nat.reduceEqDiff, not_false_eq_true, List.getElem?_cons_zero, List.getElem?_cons_succ, ne_eq]
    · simp only [put_same, put_ne, Nat.reduceEqDiff, not_false_eq_true, ne_eq]
    · simp only [put_same, put_ne, Nat.reduceEqDiff, not_false_eq_true, ne_eq]
    · simp only [put_same]; rfl
theorem law7 (net : Int) (l : List (List UInt8)) (o : List UInt8) (hl : small l) (ho : o.length < 140737488355328) :
    ∃ h', call F N8 T 400 7 [.int .i64 net, .lst false 1 l.length (l.map .str), .lst false 1 o.length (o.map vByte.enc)] e0 = some (.bool true, h') :=
  run7 net l o 0 hl ho rfl rfl rfl rfl rfl rfl rfl rfl
end Go.AM.X.P
