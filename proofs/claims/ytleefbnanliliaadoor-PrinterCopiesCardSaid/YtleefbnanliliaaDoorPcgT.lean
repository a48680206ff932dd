/- PrinterCopies: Copy. Own work. -/
import Derived.Test.YtleefbnanliliaaDoorPcgS
namespace Go.AM.X
open Go Go.AM Go.Proofs Go.AM.Sx
set_option maxHeartbeats 3200000
set_option maxRecDepth 100000
set_option linter.unusedVariables false
theorem a73 : tt73.agg = true := by kernel_rfl
theorem s84 : tt84.size = 6 := by kernel_rfl
theorem a84 : tt84.agg = true := by kernel_rfl
theorem z53 : tt53.zero = [.int .i64 0, .int .i64 0, .int .i64 0, .int .i64 0, .nils, .bool false] := by kernel_rfl
theorem F28 : F 28 = some { body := (Tryd.f28.body.getD .skip), results := Tryd.f28.results.toList, rf := false } := by kernel_rfl
theorem R28 : regsOk T (Tryd.f28.body.getD .skip) = true := by kernel_rfl
theorem F51 : F 51 = some { body := (Tryd.f51.body.getD .skip), results := Tryd.f51.results.toList, rf := false } := by kernel_rfl
theorem R51 : regsOk T (Tryd.f51.body.getD .skip) = true := by kernel_rfl
theorem run51 {I : Nat → Option (List AV → AH → Rs)} (h51 : I 51 = none) (m : Nat) (v : AV) (ws : List Wt) (h : AH) (hr : RowC 3 h v ws.length (wcs ws)) (hb : ∀ w ∈ ws, okB w.b) (hl : ws.length ≤ 100) :
    ∃ v2 h2, call F I T (m + 1) 51 [v] h = some (v2, h2) ∧ RowC 3 h2 v2 ws.length (wcs ws) ∧ Fresh h v2 ∧ Grow h h2 := by
  rcases hr with ⟨rfl, h0, _⟩ | ⟨b, cap, ex, rest, rfl, h1, h2, h3, h4⟩
  · refine ⟨.nils, h, ?_, by rw [List.length_eq_zero_iff.1 h0]; exact RowC.nil _ _, (fun _ _ _ _ _ _ e => by cases e), Grow.refl h⟩
    rw [call_F (by decide) h51 F51 rfl R51]; simp only [Tryd.f51, Option.getD]
    simp +contextual (maxSteps := 3000000) only [↓code_seq, ↓code_region, ↓code_cond, ↓code_ret, aCond_bool, ↓ops_nil, ↓ops_cons, run_none, ↓run0_v, ↓seqK_normal, ↓seqK_ret, ↓retK_ret, put_same, put_ne, env0_at, ev_tmp, ev_const, oc_nils, o_move, o_assign, o_bin, g_none, resultsOf, oneOrAll, Option.map_some, Option.getD_some, ↓reduceIte, not_false_eq_true, reduceCtorEq, List.getElem?_cons_zero, ne_eq, snn_eql T70 d70]
  · have hg := Grow.alloc h (.cells [] .own)
    have hsrc : aSource 3 (.sl b 0 ws.length cap 3 ex) (h.alloc (.cells [] .own)) = some (ws.length, wcs ws) := by
      rw [src_sl]
      have : (h.alloc (.cells [] .own)).get b = some (.cells (wcs ws ++ rest) .own) := by rw [AH.get_alloc, if_neg (by omega)]; exact h4
      simp only [AH.loadn, this]
      rw [if_pos (by rw [List.length_append, wcs_len]; omega), List.drop_zero, List.take_append_of_le_length (by rw [wcs_len]; exact Nat.le_refl _), List.take_of_length_le (by rw [wcs_len]; exact Nat.le_refl _)]
      rfl
    have hr0 : RowC 3 (h.alloc (.cells [] .own)) (.sl h.next 0 0 0 3 true) 0 [] := .inr ⟨h.next, 0, true, [], rfl, rfl, rfl, by simp, by rw [AH.get_alloc, if_pos rfl]; rfl⟩
    obtain ⟨v2, h2', r1, r2, r3, r4, r5⟩ := RowC.app' (new := wcs ws) (m := ws.length) (xt := 70) T70 d70 T81 (isSrc_sl T70 d70) s81 (by decide) (by rw [b81]; decide) hr0 (by rw [s81]; exact hsrc) (wcs_len ws) (wcs_one hb) (by rw [b81]; simp [maxBytes]; omega)
    rw [List.nil_append, Nat.zero_add] at r2
    refine ⟨v2, h2', ?_, r2, fun b' o l k z x e => ?_, by have := r3; simp at this; omega, fun c hc => ?_⟩
    · rw [call_F (by decide) h51 F51 rfl R51]; simp only [Tryd.f51, Option.getD]
      simp +contextual (maxSteps := 3000000) only [↓code_skip, ↓code_seq, ↓code_region, ↓code_cond, ↓code_ret, aCond_bool, ↓ops_nil, ↓ops_cons, run_none, ↓run0_v, ↓run0_r, ↓seqK_normal, ↓retK_ret, put_same, put_ne, env0_at, ev_tmp, ev_const, oc_nils, o_move, o_assign, o_bin, o_buildSlice, o_append, g_none, resultsOf, oneOrAll, Option.bind_some, Option.map_some, Option.getD_some, ↓reduceIte, Nat.reduceEqDiff, not_false_eq_true, reduceCtorEq, List.getElem?_cons_zero, Bool.false_eq_true, List.map_nil, ne_eq, buildSl T70 d70 T81 (n := 0) (by rw [s81]; decide), s81, parts_eq, fillA, repl, sn_eql T70 d70, r1]
    · rcases r5 _ _ _ _ _ _ e with g | ⟨_, _, _, _, _, g⟩
      · simp at g; omega
      · cases g; exact Nat.le_refl _
    · rw [r4 c (by simp; omega) (fun b' o l k z x e => by cases e; omega), AH.get_alloc, if_neg (by omega)]
/-- A service with data of its own comes behind those of a printer. -/
theorem OkD.addS {h H : AH} {p : Nat} {P : Pr} {dat : Nat → List Int} {js : List Jb} (hP : OkD h p P dat js) (hg : Grow h H) (s : Sv) (bs : List Int) (ha : h.next ≤ s.a ∧ s.a < H.next) (hs : s.ok H) (hd : Dat H s.d bs)
    (hf : ∀ b o l k z x, s.d = .sl b o l k z x → h.next ≤ b ∧ b ≠ s.a) (hl : P.ss.length < 100) :
    ∃ v' h6, aAppend T 71 71 P.sv (.sl H.next 0 1 1 1 true) (H.alloc (.cells [.ptr s.a 0] .own)) = some (v', h6) ∧ h6.get p = some P.blk ∧ v'.cells = some [v'] ∧ v'.one = true ∧
      OkD (h6.put p ({ P with sv := v', ss := P.ss ++ [s] } : Pr).blk) p { P with sv := v', ss := P.ss ++ [s] } (fun x => if x = s.a then bs else dat x) js ∧
      Stf h (h6.put p ({ P with sv := v', ss := P.ss ++ [s] } : Pr).blk) (P.offD js p) (({ P with sv := v', ss := P.ss ++ [s] } : Pr).offD js p) := by
  have hlt := hP.ok.lt
  obtain ⟨v', h6, q1, q2, q3, q4, q5⟩ := (hP.ok.s.grow hg).push (new := [.ptr s.a 0]) T71 d71 T82 s82 (by decide) (by rw [b82]; decide) rfl rfl (by rw [b82]; simp [maxBytes]; omega)
  obtain ⟨u1, u2⟩ := q2.cells
  have hg1 := hg.1
  have hsh : ∀ b o l k z x, v' = .sl b o l k z x → H.next ≤ b ∨ ∃ o l k z x, P.sv = .sl b o l k z x := q5
  have hv' : ∀ c, c < H.next → offRow P.sv c → offRow v' c := fun c hc ho => off_new (h := H) hsh hc ho
  have hsa : offRow P.sv s.a := fun b o l k z x e g => by have := hP.ok.s.lt e; omega
  have hwa : offRow P.wv s.a := fun b o l k z x e g => by have := hP.ok.w.lt e; omega
  have hne : ∀ x ∈ P.ss, x.a ≠ s.a := fun x hx e => by have := (hP.ok.b x hx).1; omega
  have k6 : ∀ c, c < h.next → offRow P.sv c → h6.get c = h.get c := fun c hc ho => by rw [q4 c (by omega) ho, hg.2 c hc]
  have hO := hP.ok.set_s (h4 := h6) (v := v') (ss := P.ss ++ [s]) (by rw [List.length_append, show scs (P.ss ++ [s]) = scs P.ss ++ [.ptr s.a 0] by simp [scs]]; exact q2) (by omega) (fun c hc ho _ => k6 c hc ho) (fun b o l k z x hv => by
      rcases hsh _ _ _ _ _ _ hv with g | g
      · exact .inl (by omega)
      · exact .inr g) (fun x hx => by
      rcases List.mem_append.1 hx with hx | hx
      · have r1 := hP.ok.b x hx
        have r2 := hP.ok.ap x hx
        exact ⟨by omega, by unfold Sv.ok; rw [k6 _ r1.1 r2.2.2]; exact r1.2, r2.1, r2.2.1, hv' _ (by omega) r2.2.2, .inr ⟨x, hx, rfl⟩⟩
      · rw [List.mem_singleton] at hx
        subst hx
        exact ⟨by omega, by unfold Sv.ok; rw [q4 _ ha.2 hsa]; exact hs, by omega, hwa, hv' _ ha.2 hsa, .inl ha.1⟩)
    (by
      rw [List.map_append, List.nodup_append]
      refine ⟨hP.ok.nd, by simp, fun a ha b hb' => ?_⟩
      obtain ⟨x, hx, rfl⟩ := List.mem_map.1 ha
      simp at hb'
      rw [hb']; exact hne x hx) (by rw [List.length_append]; simp; omega)
  obtain ⟨P2, hP2⟩ : ∃ P2 : Pr, P2 = { P with sv := v', ss := P.ss ++ [s] } := ⟨_, rfl⟩
  refine ⟨v', h6, q1, ?_⟩
  rw [← hP2] at hO ⊢
  have e_wv : P2.wv = P.wv := by rw [hP2]
  have e_jv : P2.jv = P.jv := by rw [hP2]
  have e_sv : P2.sv = v' := by rw [hP2]
  have e_ss : P2.ss = P.ss ++ [s] := by rw [hP2]
  obtain ⟨h7, e7⟩ : ∃ h7, h7 = h6.put p P2.blk := ⟨_, rfl⟩
  rw [← e7] at hO ⊢
  have n7 : h7.next = h6.next := by rw [e7]; simp
  -- what is off the printer is as it was, and off it
  have old : ∀ c, c < h.next → P.off p c → h7.get c = h.get c ∧ P2.off p c := fun c hc ho => hO.2.2 c hc ho
  have keepO : ∀ c, c < h.next → P.off p c → h7.get c = h.get c := fun c hc ho => (old c hc ho).1
  have keepH : ∀ c, c < H.next → c ≠ p → offRow P.sv c → h7.get c = H.get c := fun c hc hp ho => by rw [e7, AH.get_put, if_neg hp, q4 c hc ho]
  have dOff : ∀ b, h.next ≤ b → b < H.next → b ≠ s.a → P2.off p b := fun b hb hb2 hba => by
    refine ⟨by omega, ?_, ?_, fun t ht => ?_⟩
    · rw [e_wv]; exact fun b' o l k z x e g => by have := hP.ok.w.lt e; omega
    · rw [e_sv]; exact hv' b hb2 fun b' o l k z x e g => by have := hP.ok.s.lt e; omega
    · rw [e_ss] at ht
      rcases List.mem_append.1 ht with g | g
      · have := (hP.ok.b t g).1; omega
      · rw [List.mem_singleton.1 g]; exact hba
  refine ⟨by rw [k6 p hlt hP.ok.sp]; exact hP.ok.g, u1, u2, { ok := hO.1, dd := ?_, dx := ?_, dn := ?_, jr := ?_, jx := ?_, jd := ?_, jf := ?_ }, hO.2.1, fun c hc ho => ⟨keepO c hc ho.1, (old c hc ho.1).2, ?_, ?_, ho.2.2.2⟩⟩
  · intro x hx
    rw [e_ss] at hx
    rcases List.mem_append.1 hx with g | g
    · simp only [if_neg (hne x g)]
      exact (hP.dd x g).keep (by omega) fun b o l k z y e => keepO b (RowC.lt (hP.dd x g) e) (hP.dx x g _ _ _ _ _ _ e).1
    · rw [List.mem_singleton.1 g]
      simp only [if_pos]
      exact hd.keep (by omega) fun b o l k z y e => by
        have := hf _ _ _ _ _ _ e
        exact keepH b (RowC.lt hd e) (by omega) fun b' o' l' k' z' x' e' g' => by have := hP.ok.s.lt e'; omega
  · intro x hx b o l k z y e
    rw [e_ss] at hx
    rw [e_jv]
    rcases List.mem_append.1 hx with g | g
    · have := hP.dx x g _ _ _ _ _ _ e
      exact ⟨(old b (RowC.lt (hP.dd x g) e) this.1).2, this.2⟩
    · rw [List.mem_singleton.1 g] at e
      have := hf _ _ _ _ _ _ e
      exact ⟨dOff b this.1 (RowC.lt hd e) this.2, fun b' o' l' k' z' x' e' g' => by have := hP.jr.lt e'; omega⟩
  · intro x hx t ht hxt b o l k z y e
    rw [e_ss] at hx ht
    rcases List.mem_append.1 hx with g | g
    · rcases List.mem_append.1 ht with g2 | g2
      · exact hP.dn x g t g2 hxt _ _ _ _ _ _ e
      · rw [List.mem_singleton.1 g2]
        exact fun b' o' l' k' z' x' e' g' => by have := hf _ _ _ _ _ _ e'; have := RowC.lt (hP.dd x g) e; omega
    · rcases List.mem_append.1 ht with g2 | g2
      · rw [List.mem_singleton.1 g] at e
        exact fun b' o' l' k' z' x' e' g' => by have := hf _ _ _ _ _ _ e; have := RowC.lt (hP.dd t g2) e'; omega
      · rw [List.mem_singleton.1 g, List.mem_singleton.1 g2] at hxt; exact absurd rfl hxt
  · rw [e_jv]
    exact hP.jr.keep (by omega) fun b o l k z x e => keepO b (hP.jr.lt e) (hP.jx _ _ _ _ _ _ e)
  · intro b o l k z x e
    rw [e_jv] at e
    exact (old b (hP.jr.lt e) (hP.jx _ _ _ _ _ _ e)).2
  · intro j hj
    exact (hP.jd j hj).keep (by omega) fun b o l k z x e => keepO b (RowC.lt (hP.jd j hj) e) (hP.jf j hj _ _ _ _ _ _ e).1
  · intro j hj b o l k z x e
    have := hP.jf j hj _ _ _ _ _ _ e
    have hbl := RowC.lt (hP.jd j hj) e
    refine ⟨(old b hbl this.1).2, by rw [e_jv]; exact this.2.1, fun t ht => ?_⟩
    rw [e_ss] at ht
    rcases List.mem_append.1 ht with g | g
    · exact this.2.2 t g
    · rw [List.mem_singleton.1 g]
      exact fun b' o' l' k' z' x' e' g' => by have := hf _ _ _ _ _ _ e'; omega
  · rw [e_jv]; exact ho.2.1
  · intro t ht
    rw [e_ss] at ht
    rcases List.mem_append.1 ht with g | g
    · exact ho.2.2.1 t g
    · rw [List.mem_singleton.1 g]
      exact fun b' o' l' k' z' x' e' g' => by have := hf _ _ _ _ _ _ e'; omega
theorem store_p (h : AH) (q r lf : Int) (w s j : AV) (hw : w.one = true) (hs : s.one = true) (hj : j.one = true) : ∃ h2, aStore T 73 (.ptr h.next 0) (.agg [.int .i64 q, .int .i64 r, w, s, j, .int .i64 lf]) (h.alloc (.cells [.int .i64 0, .int .i64 0, .nils, .nils, .nils, .int .i64 0] .own)) = some h2 ∧ h2.next = h.next + 1 ∧ h2.get h.next = some (.cells [.int .i64 q, .int .i64 r, w, s, j, .int .i64 lf] .own) ∧ Grow h h2 := by
  have h1 := store_n (T := T) (t := 73) (b := h.next) (o := 0) (v := .agg [.int .i64 q, .int .i64 r, w, s, j, .int .i64 lf]) (vs := [.int .i64 q, .int .i64 r, w, s, j, .int .i64 lf]) (h := h.alloc (.cells [.int .i64 0, .int .i64 0, .nils, .nils, .nils, .int .i64 0] .own)) (cs := [.int .i64 0, .int .i64 0, .nils, .nils, .nils, .int .i64 0]) T73 rfl (by rw [s73]; rfl)
    (by simp only [List.all_cons, List.all_nil, hw, hs, hj]; rfl) (by rw [AH.get_alloc, if_pos rfl]) (by simp)
  refine ⟨_, h1, by simp, by rw [AH.get_put, if_pos rfl]; rfl, by simp, fun c hc => ?_⟩
  rw [AH.get_put, if_neg (by omega), AH.get_alloc, if_neg (by omega)]
theorem store_s (h : AH) (s : Sv) (hb : s.b.one = true) (hd : s.d.one = true) : ∃ h2, aStore T 84 (.ptr h.next 0) (.agg [.int .i64 s.c, s.b, .int .i64 s.j, .int .i64 s.q, .int .i64 s.s, s.d]) (h.alloc (.cells [.int .i64 0, .nilp, .int .i64 0, .int .i64 0, .int .i64 0, .nils] .own)) = some h2 ∧ h2.next = h.next + 1 ∧ h2.get h.next = some (.cells s.enc .own) ∧ Grow h h2 := by
  have h1 := store_n (T := T) (t := 84) (b := h.next) (o := 0) (v := .agg s.enc) (vs := s.enc) (h := h.alloc (.cells [.int .i64 0, .nilp, .int .i64 0, .int .i64 0, .int .i64 0, .nils] .own)) (cs := [.int .i64 0, .nilp, .int .i64 0, .int .i64 0, .int .i64 0, .nils]) T84 rfl (by rw [s84]; rfl)
    (by unfold Sv.enc; simp only [List.all_cons, List.all_nil, hb, hd]; rfl) (by rw [AH.get_alloc, if_pos rfl]) (by simp [Sv.enc])
  refine ⟨_, h1, by simp, by rw [AH.get_put, if_pos rfl]; rfl, by simp, fun c hc => ?_⟩
  rw [AH.get_put, if_neg (by omega), AH.get_alloc, if_neg (by omega)]
theorem V28 {I : Nat → Option (List AV → AH → Rs)} (h32 : I 32 = none) (h45 : I 45 = none) (h24 : I 24 = none) (h51 : I 51 = none) (h28 : I 28 = none) (m p : Nat) (V : Vp) (off : Nat → Prop) (h : AH) (hV : OkV h p V off) (hq : ¬ V.q = 0) (hjl : V.js.length ≤ 1000) (hdl : ∀ j ∈ V.js, j.2.length ≤ 5000) (hsd : ∀ x ∈ V.ss, x.d.length ≤ 5000) (hso : ∀ x ∈ V.ss, okB x.b) :
    ∃ h2 p2 off2, call F I T (m + 1200) 28 [.ptr p 0] h = some (.ptr p2 0, h2) ∧ OkV h2 p2 V off2 ∧ Grow h h2 ∧ ∀ c, c < h.next → off2 c := by
  have hV0 := hV
  obtain ⟨P, dat, js, hP, rfl, rfl⟩ := hV
  have hpq : ¬ P.q = 0 := hq
  have hp : h.get p = some (.cells [.int .i64 P.q, .int .i64 P.r, P.wv, P.sv, P.jv, .int .i64 P.lf] .own) := hP.ok.g
  have hlt := hP.ok.lt
  have k1 := run32 h32 (m + 1198) p P.q P.r P.wv P.sv P.jv P.lf h hp hpq
  obtain ⟨h1, y1, y2, y3, y4⟩ := store_p h P.q P.r P.lf P.wv P.sv P.jv hP.ok.w.cells.2 hP.ok.s.cells.2 hP.ok.jc.2
  have hp1 : h1.get p = some (.cells [.int .i64 P.q, .int .i64 P.r, P.wv, P.sv, P.jv, .int .i64 P.lf] .own) := by rw [y4.2 _ hlt]; exact hp
  obtain ⟨v2, h2, k2, k3, k4, k5⟩ := run51 h51 (m + 1198) P.wv P.ws h1 (hP.ok.w.grow y4) hP.ok.wb hP.ok.wl
  obtain ⟨v, J, h3, k6, k7, k8, k9⟩ := V24 h32 h45 h24 (m + 999) p (vp P dat js) _ h2 ((hV0.grow y4).grow k5) hq ⟨by omega, by omega⟩ hdl
  have g3 := k5.trans k9
  have y3' : h3.get h.next = some (.cells [.int .i64 P.q, .int .i64 P.r, P.wv, P.sv, P.jv, .int .i64 P.lf] .own) := by rw [g3.2 _ (by omega)]; exact y3
  obtain ⟨H1, hH1⟩ : ∃ H1, H1 = h3.put h.next (.cells [.int .i64 P.q, .int .i64 P.r, v2, P.sv, P.jv, .int .i64 P.lf] .own) := ⟨_, rfl⟩
  have w1 : aStore T 70 (.ptr h.next 2) v2 h3 = some H1 := by rw [hH1]; exact store_1 T70 s70 k3.cells.1 k3.cells.2 y3' (by simp)
  have z1 : H1.get h.next = some (.cells [.int .i64 P.q, .int .i64 P.r, v2, P.sv, P.jv, .int .i64 P.lf] .own) := by rw [hH1, AH.get_put, if_pos rfl]
  obtain ⟨H2, hH2⟩ : ∃ H2, H2 = H1.put h.next (.cells [.int .i64 P.q, .int .i64 P.r, v2, P.sv, v, .int .i64 P.lf] .own) := ⟨_, rfl⟩
  have w2 : aStore T 51 (.ptr h.next 4) v H1 = some H2 := by rw [hH2]; exact store_1 T51 s51 k7.r.cells.1 k7.r.cells.2 z1 (by simp)
  have z2 : H2.get h.next = some (.cells [.int .i64 P.q, .int .i64 P.r, v2, P.sv, v, .int .i64 P.lf] .own) := by rw [hH2, AH.get_put, if_pos rfl]
  obtain ⟨H3, hH3⟩ : ∃ H3, H3 = H2.put h.next (.cells [.int .i64 P.q, .int .i64 P.r, v2, .nils, v, .int .i64 P.lf] .own) := ⟨_, rfl⟩
  have w3 : aStore T 71 (.ptr h.next 3) .nils H2 = some H3 := by rw [hH3]; exact store_1 T71 s71 rfl rfl z2 (by simp)
  have z3 : H3.get h.next = some (.cells [.int .i64 P.q, .int .i64 P.r, v2, .nils, v, .int .i64 P.lf] .own) := by rw [hH3, AH.get_put, if_pos rfl]
  have nH : H3.next = h3.next := by rw [hH3, hH2, hH1]; simp
  have kH : ∀ c, c ≠ h.next → H3.get c = h3.get c := fun c hc => by rw [hH3, AH.get_put, if_neg hc, hH2, AH.get_put, if_neg hc, hH1, AH.get_put, if_neg hc]
  have gH : Grow h H3 := ⟨by have := g3.1; omega, fun c hc => by rw [kH c (by omega), g3.2 c (by omega), y4.2 c hc]⟩
  have hpH : H3.get p = some (.cells [.int .i64 P.q, .int .i64 P.r, P.wv, P.sv, P.jv, .int .i64 P.lf] .own) := by rw [gH.2 _ hlt]; exact hp
  have hpb : ∀ c, c = h.next → ¬ c = p := fun c e g => by omega
  -- the new printer as it is before the services come
  obtain ⟨P0, hP0⟩ : ∃ P0 : Pr, P0 = ⟨P.q, P.r, P.lf, v2, .nils, v, P.ws, []⟩ := ⟨_, rfl⟩
  have fresh2 : ∀ b o l k z x, v2 = .sl b o l k z x → h.next < b ∧ b < h2.next := fun b o l k z x e => ⟨by have := k4 _ _ _ _ _ _ e; omega, k3.lt e⟩
  have freshv : ∀ b o l k z x, v = .sl b o l k z x → h2.next ≤ b := fun b o l k z x e => k7.f _ _ _ _ _ _ e
  have n2 : h.next < h2.next := by have := k5.1; omega
  have okP0 : OkP H3 h.next P0 := by
    rw [hP0]
    exact { lt := by rw [nH]; have := g3.1; omega
            g := z3
            w := (k3.grow k9).keep (by omega) fun b o l k z x e => by rw [kH b (by have := fresh2 _ _ _ _ _ _ e; omega)]
            s := RowC.nil _ _
            b := fun x hx => by cases hx
            wp := fun b o l k z x e => by have := fresh2 _ _ _ _ _ _ e; omega
            sp := fun _ _ _ _ _ _ e => by cases e
            wsv := fun _ _ _ _ _ _ _ _ _ _ _ _ _ e => by cases e
            ap := fun x hx => by cases hx
            nd := List.nodup_nil
            wb := hP.ok.wb
            jc := k7.r.cells
            wl := hP.ok.wl
            sl := Nat.zero_le _ }
  have okD0 : OkD H3 h.next P0 (fun _ => []) J := by
    have offb : ∀ b, h2.next ≤ b → P0.off h.next b := fun b hb => by
      rw [hP0]
      exact ⟨by omega, fun b' o l k z x e => by have := fresh2 _ _ _ _ _ _ e; omega, fun _ _ _ _ _ _ e => (by cases e), fun s hs => by cases hs⟩
    exact { ok := okP0
            dd := fun s hs => by rw [hP0] at hs; cases hs
            dx := fun s hs => by rw [hP0] at hs; cases hs
            dn := fun s hs => by rw [hP0] at hs; cases hs
            jr := by rw [hP0]; exact k7.r.keep (by omega) fun b o l k z x e => by rw [kH b (by have := freshv _ _ _ _ _ _ e; omega)]
            jx := fun b o l k z x e => offb b (by rw [hP0] at e; exact freshv _ _ _ _ _ _ e)
            jd := fun j hj => (k7.d j hj).keep (by omega) fun b o l k z x e => by rw [kH b (by have := k7.df j hj _ _ _ _ _ _ e; omega)]
            jf := fun j hj b o l k z x e => ⟨offb b (k7.df j hj _ _ _ _ _ _ e), by rw [hP0]; exact k7.o j hj _ _ _ _ _ _ e, fun s hs => by rw [hP0] at hs; cases hs⟩ }
  have off0 : ∀ c, c < h.next → P0.offD J h.next c := fun c hc => by
    rw [hP0]
    exact ⟨⟨by omega, fun b o l k z x e => by have := fresh2 _ _ _ _ _ _ e; omega, fun _ _ _ _ _ _ e => (by cases e), fun s hs => by cases hs⟩, fun b o l k z x e => by have := freshv _ _ _ _ _ _ e; omega, fun s hs => (by cases hs), fun j hj b o l k z x e => by have := k7.df j hj _ _ _ _ _ _ e; omega⟩
  have co0 : P0.q = P.q ∧ P0.r = P.r ∧ P0.lf = P.lf ∧ P0.ws = P.ws := by rw [hP0]; exact ⟨rfl, rfl, rfl, rfl⟩
  have ss0 : P0.ss.map (vs fun _ => []) = (P.ss.take 0).map (vs dat) := by rw [hP0]; rfl
  have hlen : ∀ h, aLen T 71 P.sv h = some (.int .i64 (P.ss.length : Nat)) := fun h => hP.ok.s.len T71 d71
  have hsl := hP.ok.sl
  rw [call_F (by decide) h28 F28 rfl R28]; simp only [Tryd.f28, Option.getD]
  simp +contextual (maxSteps := 3000000) only [↓code_skip, ↓code_seq, ↓code_region, ↓code_cond, ↓code_block, ↓code_loop, aCond_bool, ↓ops_nil, ↓ops_cons, run_none, ↓run0_v, ↓run0_h, ↓run0_r, ↓seqK_normal, put_same, put_ne, put_none, env0_at, ev_tmp, ev_const, ev_func, oc_int, oc_nils, oc_nilp, o_move, o_assign, o_call, o_len, o_alloc, o_load, o_store, o_nilCheck, o_fieldAddr, g_none, nil_ptr, Option.map_some, Option.getD_some, ↓reduceIte, Nat.reduceEqDiff, not_false_eq_true, Nat.reduceAdd, reduceCtorEq, List.getElem?_cons_zero, List.getElem?_cons_succ, Bool.false_eq_true, List.map_cons, List.map_nil, List.append_nil, List.nil_append, Nat.le_refl, ne_eq, load_pA T73 a73, s73, loadn_def, alloc_t T73, z73, fa_ptr T73 p73_2 (by decide), load_p1 T70 a70, loadc_def, run0_h, fa_ptr T73 p73_4 (by decide), fa_ptr T73 p73_3 (by decide), load_p1 T71 a71, List.take_succ_cons, List.take_nil, List.drop_zero, List.length_cons, List.length_nil, k1, hp, y1, hp1, k2, k6, w1, w2, w3, hpH, hlen, callV_fn (g := 32) (by decide), callV_fn (g := 51) (by decide), callV_fn (g := 24) (by decide)]
  refine iterL_wp (Q := fun r => ∃ h2 p2 off2, r = some (.ptr p2 0, h2) ∧ OkV h2 p2 (vp P dat js) off2 ∧ Grow h h2 ∧ ∀ c, c < h.next → off2 c) (N := P.ss.length) (Inv := fun k e h' => ∃ i P2 dat2, k + i = P.ss.length ∧ OkD h' h.next P2 dat2 J ∧ P2.ss.map (vs dat2) = (P.ss.take i).map (vs dat) ∧ (P2.q = P.q ∧ P2.r = P.r ∧ P2.lf = P.lf ∧ P2.ws = P.ws) ∧ Grow h h' ∧ (∀ c, c < h.next → P2.offD J h.next c) ∧ i ≤ P.ss.length ∧ e 3 = .ptr h.next 0 ∧ e 25 = P.sv ∧ e 26 = .int .i64 (P.ss.length : Nat) ∧ e 27 = .int .i64 (i : Nat)) ?_ ?_ (show P.ss.length < m + 1199 by omega)
  · rintro k e h' K' ⟨i, P2, dat2, hk, hD, hss, hco, hg, hof, hil, e3, e25, e26, e27⟩ hnext hexit
    by_cases hi : i < P.ss.length
    · have c1 : (i : Int) < (P.ss.length : Int) := by omega
      obtain ⟨s, hs⟩ : ∃ s, P.ss[i]? = some s := ⟨P.ss[i], List.getElem?_eq_getElem hi⟩
      have hsm := List.mem_of_getElem? hs
      have hPg := hP.grow hg
      obtain ⟨b, cs, bk, g1, g2, g3⟩ := loadS hPg.ok.s hs
      have hsa : h'.get s.a = some (.cells [.int .i64 s.c, s.b, .int .i64 s.j, .int .i64 s.q, .int .i64 s.s, s.d] .own) := (hPg.ok.b s hsm).2
      have hsl2 := (hPg.ok.b s hsm).1
      have hsb : okB s.b := hso (vs dat s) (List.mem_map_of_mem hsm)
      have hdd := hPg.dd s hsm
      obtain ⟨hz, x1, x2, x3, x4⟩ := store_s h' s hsb.one.1 (RowC.cells hdd).2
      have hsaz : hz.get s.a = some (.cells [.int .i64 s.c, s.b, .int .i64 s.j, .int .i64 s.q, .int .i64 s.s, s.d] .own) := by rw [x4.2 _ hsl2]; exact hsa
      obtain ⟨w, h5, r1, r2, r3, r4⟩ := run45 h45 (m + 1198) s.d (dat s.a) hz (hdd.grow x4) (by have := hsd (vs dat s) (List.mem_map_of_mem hsm); simp only [vs] at this; omega)
      have x3' : h5.get h'.next = some (.cells [.int .i64 s.c, s.b, .int .i64 s.j, .int .i64 s.q, .int .i64 s.s, s.d] .own) := by rw [r4.2 _ (by omega)]; exact x3
      obtain ⟨H, hH⟩ : ∃ H, H = h5.put h'.next (.cells [.int .i64 s.c, s.b, .int .i64 s.j, .int .i64 s.q, .int .i64 s.s, w] .own) := ⟨_, rfl⟩
      have r5 : aStore T 48 (.ptr h'.next 5) w h5 = some H := by rw [hH]; exact store_1 T48 s48 (RowC.cells r2).1 (RowC.cells r2).2 x3' (by simp)
      have nH' : H.next = h5.next := by rw [hH]; simp
      have hn5 := r4.1
      have gHH : Grow h' H := ⟨by omega, fun c hc => by rw [hH, AH.get_put, if_neg (by omega), r4.2 c (by omega), x4.2 c hc]⟩
      have wf : ∀ b o l k z x, w = .sl b o l k z x → h'.next ≤ b ∧ b ≠ h'.next := fun b o l k z x e => by have := r3 _ _ _ _ _ _ e; omega
      have hB0 : h'.get h.next = some (.cells [.int .i64 P2.q, .int .i64 P2.r, P2.wv, P2.sv, P2.jv, .int .i64 P2.lf] .own) := hD.ok.g
      have hBl : h.next < h'.next := hD.ok.lt
      have hB : H.get h.next = some (.cells [.int .i64 P2.q, .int .i64 P2.r, P2.wv, P2.sv, P2.jv, .int .i64 P2.lf] .own) := by rw [gHH.2 _ hBl]; exact hB0
      have hle : P2.ss.length = i := by have := congrArg List.length hss; rw [List.length_map, List.length_map, List.length_take] at this; omega
      obtain ⟨v', h6, q1, q2, q3, q4, q5, q6⟩ := hD.addS gHH ⟨h'.next, s.c, s.b, s.j, s.q, s.s, w⟩ (dat s.a) ⟨Nat.le_refl _, by show h'.next < H.next; omega⟩ (by unfold Sv.ok; rw [hH, AH.get_put, if_pos rfl]; rfl) (r2.keep (by omega) fun b o l k z x e => by rw [hH, AH.get_put, if_neg (wf _ _ _ _ _ _ e).2]) wf (by omega)
      obtain ⟨P3, hP3⟩ : ∃ P3 : Pr, P3 = { P2 with sv := v', ss := P2.ss ++ [⟨h'.next, s.c, s.b, s.j, s.q, s.s, w⟩] } := ⟨_, rfl⟩
      rw [← hP3] at q5 q6
      obtain ⟨H6, hH6⟩ : ∃ H6, H6 = h6.put h.next P3.blk := ⟨_, rfl⟩
      rw [← hH6] at q5 q6
      simp only at q1
      have q2' : h6.get h.next = some (.cells [.int .i64 P2.q, .int .i64 P2.r, P2.wv, P2.sv, P2.jv, .int .i64 P2.lf] .own) := q2
      have r6 : aStore T 71 (.ptr h.next 3) v' h6 = some H6 := by rw [hH6, hP3]; exact store_1 T71 s71 q3 q4 q2' (by simp)
      have c7 : IntKind.i64.wrap ((i : Int) + 1) = ((i + 1 : Nat) : Int) := by rw [wrap_i64 (by omega) (by omega)]; rfl
      have hfr : ∀ c, c < h.next → H6.get c = h'.get c ∧ P3.offD J h.next c := fun c hc => q6.2 c (by omega) (hof c hc)
      have hng : ∀ x ∈ P2.ss, x.a ≠ h'.next := fun x hx e => by have := (hD.ok.b x hx).1; omega
      have hnx : P3.ss.map (vs fun x => if x = h'.next then dat s.a else dat2 x) = (P.ss.take (i + 1)).map (vs dat) := by
        rw [List.take_add_one, hs, List.map_append, ← hss, hP3]
        show (P2.ss ++ [(⟨h'.next, s.c, s.b, s.j, s.q, s.s, w⟩ : Sv)]).map _ = _
        rw [List.map_append]
        congr 1
        · exact List.map_congr_left fun x hx => by unfold vs; simp only [if_neg (hng x hx)]
        · simp [vs]
      simp +contextual (maxSteps := 3000000) only [↓code_skip, ↓code_seq, ↓code_region, ↓code_cond, ↓code_block, aCond_bool, ↓ops_nil, ↓ops_cons, run_none, ↓run0_v, ↓run0_h, ↓run0_r, ↓seqK_normal, ↓blkK_normal, put_same, put_ne, put_none, ev_tmp, ev_const, ev_func, oc_int, o_move, o_assign, o_bin, o_call, o_alloc, o_buildSlice, o_load, o_store, o_nilCheck, o_fieldAddr, o_indexAddr, o_append, g_none, bin_add, bin_lss, nil_ptr, Option.bind_some, Option.map_some, decide_eq_true_eq, ↓reduceIte, Nat.reduceEqDiff, not_false_eq_true, Nat.reduceAdd, Nat.reduceMul, List.getElem?_cons_zero, List.getElem?_cons_succ, List.map_cons, List.map_nil, List.append_nil, List.nil_append, and_true, Nat.le_refl, ne_eq, loadn_def, loadc_def, run0_h, fa_ptr T73 p73_3 (by decide), load_p1 T71 a71, load_p1 T82 a82, load_pA T84 a84, s84, alloc_t T84, z84, fa_ptr T84 p84_5 (by decide), load_p1 T48 a48, buildSl T71 d71 T82 (n := 1) (by rw [s82]; decide), s82, z82, parts_eq, fillA, AV.cells, AH.splice, List.take_succ_cons, List.take_zero, List.take_nil, List.drop_succ_cons, List.drop_zero, List.drop_nil, List.length_cons, List.length_nil, repl, e3, e25, e26, e27, c1, g1, g2, g3, hsa, x1, hsaz, r1, r5, hB, q1, r6, c7, callV_fn (g := 45) (by decide)]
      refine hnext (k - 1) _ _ (by omega) ⟨i + 1, P3, fun x => if x = h'.next then dat s.a else dat2 x, by omega, ?_, ?_, ?_, ?_, ?_, ?_, ?_, ?_, ?_, ?_⟩
      · exact q5
      · exact hnx
      · rw [hP3]; exact hco
      · exact ⟨by have := q6.1; have := hg.1; omega, fun c hc => by rw [(hfr c hc).1, hg.2 c hc]⟩
      · exact fun c hc => (hfr c hc).2
      · omega
      · simp only [put_ne, Nat.reduceEqDiff, not_false_eq_true, ne_eq, e3]
      · simp only [put_ne, Nat.reduceEqDiff, not_false_eq_true, ne_eq, e25]
      · simp only [put_ne, Nat.reduceEqDiff, not_false_eq_true, ne_eq, e26]
      · simp only [put_same]
    · have c1 : ¬ (i : Int) < (P.ss.length : Int) := by omega
      have hin : i = P.ss.length := by omega
      rw [hin, List.take_length] at hss
      simp +contextual (maxSteps := 3000000) only [↓code_seq, ↓code_region, ↓code_cond, ↓code_exit, aCond_bool, ↓ops_nil, ↓ops_cons, run_none, ↓run0_v, ↓seqK_normal, ↓seqK_exit, put_same, ev_tmp, o_bin, g_none, bin_lss, decide_eq_true_eq, ↓reduceIte, e26, e27, c1]
      refine hexit _ _ _ (by simp) ⟨h', h.next, _, ?_, ⟨P2, dat2, J, hD, ?_, rfl⟩, hg, hof⟩
      · simp +contextual (maxSteps := 3000000) only [↓code_seq, ↓code_region, ↓code_ret, ↓ops_nil, ↓ops_cons, run_none, ↓run0_v, ↓seqK_normal, ↓blkK_exit, ↓retK_ret, put_same, put_ne, ev_tmp, o_assign, g_none, resultsOf, oneOrAll, Option.map_some, ↓reduceIte, Nat.reduceEqDiff, not_false_eq_true, ne_eq, e3]
      · unfold vp
        rw [hco.1, hco.2.1, hco.2.2.1, hco.2.2.2, hss]
        congr 1
        exact k8.symm
  · refine ⟨0, P0, fun _ => [], by omega, ?_, ?_, ?_, ?_, ?_, ?_, ?_, ?_, ?_, ?_⟩
    · exact okD0
    · exact ss0
    · exact co0
    · exact gH
    · exact off0
    · omega
    · simp only [put_same, put_ne, Nat.reduceEqDiff, not_false_eq_true, ne_eq]
    · simp only [put_same, put_ne, Nat.reduceEqDiff, not_false_eq_true, ne_eq]
    · simp only [put_same, put_ne, Nat.reduceEqDiff, not_false_eq_true, ne_eq]
    · simp only [put_same]; rfl
end Go.AM.X
namespace Go.AM.X
open Go Go.AM Go.Proofs Go.AM.Sx
set_option maxHeartbeats 6400000
set_option maxRecDepth 100000
set_option linter.unusedVariables false
theorem F9 : F 9 = some { body := (Tryd.f9.body.getD .skip), results := Tryd.f9.results.toList, rf := false } := by kernel_rfl
def oW7 (b mb : Nat) (oV oS oQ oU : Nat → Prop) : Nat → Prop := fun c => (oV c ∧ oS c ∧ oQ c ∧ oU c) ∧ c ≠ b ∧ c ≠ mb
theorem W7.th {h : AH} {b mb p s r t : Nat} {sq : Int → Int} {V S : Vp} {Q U : Tp} {oV oS oQ oU : Nat → Prop} (hW : W7 h b mb p s r t sq V S Q U oV oS oQ oU) : Th h (fun h => W7 h b mb p s r t sq V S Q U oV oS oQ oU) (oW7 b mb oV oS oQ oU) where
  it := hW
  keep := fun h2 hn hk =>
    { fv := hW.fv.keep hn fun c hc hno => hk c hc fun g => hno g.1.1
      fs := hW.fs.keep hn fun c hc hno => hk c hc fun g => hno g.1.2.1
      fq := hW.fq.keep hn fun c hc hno => hk c hc fun g => hno g.1.2.2.1
      fu := hW.fu.keep hn fun c hc hno => hk c hc fun g => hno g.1.2.2.2
      pvs := hW.pvs, pvq := hW.pvq, pvu := hW.pvu, psq := hW.psq, psu := hW.psu, pqu := hW.pqu
      bx := by rw [hk b hW.bl fun g => g.2.1 rfl]; exact hW.bx
      bl := Nat.lt_of_lt_of_le hW.bl hn, bo := hW.bo
      mp := hW.mp.keep (hk mb hW.ml fun g => g.2.2 rfl)
      ml := Nat.lt_of_lt_of_le hW.ml hn, mo := hW.mo, ne := hW.ne }
  ge := fun c hc => ⟨⟨hW.fv.off_ge hc, hW.fs.off_ge hc, hW.fq.off_ge hc, hW.fu.off_ge hc⟩, by have := hW.bl; omega, by have := hW.ml; omega⟩
/-- Something old beside two printers. -/
structure W9 (h : AH) (okW : AH → Prop) (oW : Nat → Prop) (c d : Nat) (C D : Vp) (oC oD : Nat → Prop) : Prop where
  w : Th h okW oW
  c : OkV h c C oC
  d : OkV h d D oD
  cd : Apt oC oD
  cw : Apt oC oW
  dw : Apt oD oW
theorem Th.step {h h2 : AH} {ok : AH → Prop} {o a a2 : Nat → Prop} (hT : Th h ok o) (hA : Apt a o) (hS : Stf h h2 a a2) : Th h2 ok o :=
  { it := (hT.other hA hS).1
    keep := fun h3 hn hk => hT.keep h3 (Nat.le_trans hS.1 hn) fun c hc hno => by
      rw [hk c (Nat.lt_of_lt_of_le hc hS.1) hno]
      exact (hS.2 c hc ((hA c).resolve_right hno)).1
    ge := fun c hc => hT.ge c (Nat.le_trans hS.1 hc) }
theorem Th.grow {h h2 : AH} {ok : AH → Prop} {o : Nat → Prop} (hT : Th h ok o) (hg : Grow h h2) : Th h2 ok o :=
  { it := hT.keep h2 hg.1 fun c hc _ => hg.2 c hc
    keep := fun h3 hn hk => hT.keep h3 (Nat.le_trans hg.1 hn) fun c hc hno => by rw [hk c (Nat.lt_of_lt_of_le hc hg.1) hno]; exact hg.2 c hc
    ge := fun c hc => hT.ge c (Nat.le_trans hg.1 hc) }
variable {h h2 : AH} {okW : AH → Prop} {oW : Nat → Prop} {c d : Nat} {C D C2 D2 : Vp} {oC oD oC2 oD2 : Nat → Prop}
theorem W9.grow (hW : W9 h okW oW c d C D oC oD) (hg : Grow h h2) : W9 h2 okW oW c d C D oC oD :=
  ⟨hW.w.grow hg, hW.c.grow hg, hW.d.grow hg, hW.cd, hW.cw, hW.dw⟩
theorem W9.opC (hW : W9 h okW oW c d C D oC oD) (hV : OkV h2 c C2 oC2) (hS : Stf h h2 oC oC2) : W9 h2 okW oW c d C2 D oC2 oD :=
  have a1 := hW.d.th.other hW.cd hS
  ⟨hW.w.step hW.cw hS, hV, a1.1, a1.2, (hW.w.other hW.cw hS).2, hW.dw⟩
theorem W9.opD (hW : W9 h okW oW c d C D oC oD) (hV : OkV h2 d D2 oD2) (hS : Stf h h2 oD oD2) : W9 h2 okW oW c d C D2 oC oD2 :=
  have a1 := hW.c.th.other hW.cd.symm hS
  ⟨hW.w.step hW.dw hS, a1.1, hV, a1.2.symm, hW.cw, (hW.w.other hW.dw hS).2⟩
/-- What a copy is: a printer that a document's printer goes with. -/
def Cp (n s t : Nat) (C : Vp) : Prop := ∃ Q, Rel t C Q ∧ Inv n s C
theorem Cp.mono {n n2 s t : Nat} {C : Vp} (hC : Cp n s t C) (hn : n ≤ n2) : Cp n2 s t C := by
  obtain ⟨Q, h1, h2⟩ := hC
  exact ⟨Q, h1, h2.mono hn⟩
def StepP (n s t p : Nat) (h : AH) (oC : Nat → Prop) (rr : Rs) : Prop := ∃ e h2 C2 oC2, rr = some (.int .i64 e, h2) ∧ OkV h2 p C2 oC2 ∧ Stf h h2 oC oC2 ∧ Cp (n + 1) s t C2
theorem cpWant {I : Nat → Option (List AV → AH → Rs)} (h30 : I 30 = none) (h32 : I 32 = none) (h58 : I 58 = none) (h37 : I 37 = none) (h57 : I 57 = none) (h38 : I 38 = none) (h33 : I 33 = none) (h12 : I 12 = none) (h59 : I 59 = none) (h60 : I 60 = none) (m n s t p : Nat) (x w : Int) (C : Vp) (oC : Nat → Prop) (h : AH) (hV : OkV h p C oC) (hC : Cp n s t C) (hx : big x) : StepP n s t p h oC (call F I T (m + 400) 12 [.ptr p 0, .int .i64 x, .int .i64 w] h) := by
  obtain ⟨Q, h1, h2⟩ := hC
  obtain ⟨e1, e2, e3⟩ := h1.Want h2 x w hx
  obtain ⟨h2', o2, k1, k2, k3⟩ := V12 h30 h32 h58 h37 h57 h38 h33 h12 h59 h60 (m + 97) p x w C oC h hV (by have := h2.q; omega)
  exact ⟨_, _, _, _, k1, k2, k3, _, e2, e3.mono (Nat.le_succ n)⟩
theorem cpGive {I : Nat → Option (List AV → AH → Rs)} (h32 : I 32 = none) (h36 : I 36 = none) (h58 : I 58 = none) (h37 : I 37 = none) (h57 : I 57 = none) (h38 : I 38 = none) (h39 : I 39 = none) (h15 : I 15 = none) (h59 : I 59 = none) (h60 : I 60 = none) (m n s t p : Nat) (x : Int) (C : Vp) (oC : Nat → Prop) (h : AH) (hV : OkV h p C oC) (hC : Cp n s t C) : StepP n s t p h oC (call F I T (m + 400) 15 [.ptr p 0, .int .i64 x] h) := by
  obtain ⟨Q, h1, h2⟩ := hC
  obtain ⟨e1, e2, e3⟩ := h1.Give h2 x
  obtain ⟨h2', o2, k1, k2, k3⟩ := V15 h32 h36 h58 h37 h57 h38 h39 h15 h59 h60 (m + 97) p x C oC h hV (by have := h2.q; omega)
  exact ⟨_, _, _, _, k1, k2, k3, _, e2, e3.mono (Nat.le_succ n)⟩
theorem cpSend {I : Nat → Option (List AV → AH → Rs)} (h30 : I 30 = none) (h32 : I 32 = none) (h57 : I 57 = none) (h38 : I 38 = none) (h39 : I 39 = none) (h43 : I 43 = none) (h42 : I 42 = none) (h21 : I 21 = none) (h60 : I 60 = none) (m n s t p : Nat) (x N : Int) (da : List Int) (en : Bool) (C : Vp) (oC : Nat → Prop) (h : AH) (hV : OkV h p C oC) (hC : Cp n s t C) (hn : n ≤ 1000) : StepP n s t p h oC (call F I T (m + 400) 21 [.ptr p 0, .int .i64 x, .int .i64 N, .lst false 1 da.length (bytes da), .bool en] h) := by
  obtain ⟨Q, h1, h2⟩ := hC
  obtain ⟨e1, e2, e3⟩ := h1.Send h2 x N da en
  obtain ⟨h2', o2, k1, k2, k3⟩ := V21c h30 h32 h57 h38 h39 h43 h42 h21 h60 (m + 90) p x N (.lst false 1 da.length (bytes da)) en C oC h da hV (by have := h2.q; omega) (fun y hy => by have := h2.sb y hy; exact ⟨this.1.1, this.1.2, this.2.2.1⟩) (pc_lst da) (by have := h2.q; omega) (by have := h2.jl; omega)
  exact ⟨_, _, _, _, k1, k2, k3, _, e2, e3⟩
theorem cpTick {I : Nat → Option (List AV → AH → Rs)} (h32 : I 32 = none) (h57 : I 57 = none) (h34 : I 34 = none) (h35 : I 35 = none) (h36 : I 36 = none) (h13 : I 13 = none) (h35 : I 35 = none) (m n s t p : Nat) (C : Vp) (oC : Nat → Prop) (h : AH) (hV : OkV h p C oC) (hC : Cp n s t C) (hn : n ≤ 1000) : StepP n s t p h oC (call F I T (m + 400) 13 [.ptr p 0] h) := by
  obtain ⟨Q, h1, h2⟩ := hC
  obtain ⟨e2, e3⟩ := h1.Tick h2
  obtain ⟨h2', o2, k1, k2, k3⟩ := V13 h32 h57 h34 h35 h36 h13 h35 m p C oC h hV (by have := h2.q; omega) h2.r (fun w hw => by have := (h2.wb w hw).1; omega) (fun x hx => by have := (h2.sb x hx).2.1; omega)
  exact ⟨_, _, _, _, k1, k2, k3, _, e2, e3⟩
theorem store_ac (h : AH) (a : Ac) : ∃ h2, aStore T 53 (.ptr h.next 0) (.agg [.int .i64 a.dd, .int .i64 a.on, .int .i64 a.cl, .int .i64 a.n, .lst false 1 a.da.length (bytes a.da), .bool a.en]) (h.alloc (.cells [.int .i64 0, .int .i64 0, .int .i64 0, .int .i64 0, .nils, .bool false] .own)) = some h2 ∧ h2.next = h.next + 1 ∧ h2.get h.next = some (.cells [.int .i64 a.dd, .int .i64 a.on, .int .i64 a.cl, .int .i64 a.n, .lst false 1 a.da.length (bytes a.da), .bool a.en] .own) ∧ Grow h h2 := by
  have h1 := store_n (T := T) (t := 53) (b := h.next) (o := 0) (v := .agg a.av) (vs := a.av) (h := h.alloc (.cells [.int .i64 0, .int .i64 0, .int .i64 0, .int .i64 0, .nils, .bool false] .own)) (cs := [.int .i64 0, .int .i64 0, .int .i64 0, .int .i64 0, .nils, .bool false]) T53 rfl (by rw [s53]; rfl) rfl (by rw [AH.get_alloc, if_pos rfl]) (by simp [Ac.len])
  refine ⟨_, h1, by simp, by rw [AH.get_put, if_pos rfl]; rfl, by simp, fun c hc => ?_⟩
  rw [AH.get_put, if_neg (by omega), AH.get_alloc, if_neg (by omega)]
/-- Copies are made. -/
theorem W9.make {h h1 h2 : AH} {okW : AH → Prop} {oW : Nat → Prop} (hT : Th h okW oW) {c d : Nat} {C D : Vp} {oC oD : Nat → Prop} (hC : OkV h1 c C oC) (g1 : Grow h h1) (f1 : ∀ x, x < h.next → oC x) (hD : OkV h2 d D oD) (g2 : Grow h1 h2) (f2 : ∀ x, x < h1.next → oD x) : W9 h2 okW oW c d C D oC oD :=
  { w := hT.grow (g1.trans g2), c := hC.grow g2, d := hD, cd := aptNew (n := h1.next) (fun x hx => hC.off_ge hx) f2, cw := (aptNew (n := h.next) (fun x hx => hT.ge x hx) f1).symm, dw := (aptNew (n := h1.next) (fun x hx => hT.ge x (Nat.le_trans g1.1 hx)) f2).symm }
end Go.AM.X
