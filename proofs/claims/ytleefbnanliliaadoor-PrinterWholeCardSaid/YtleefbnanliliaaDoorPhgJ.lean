/- PrinterWhole: the last piece: a job of all its pieces. Own work. -/
import Derived.Test.YtleefbnanliliaaDoorPhgI
namespace Go.AM.X
open Go Go.AM Go.Proofs Go.AM.Sx
set_option maxHeartbeats 3200000
set_option maxRecDepth 100000
set_option linter.unusedVariables false
def notP (c : Int) (l : List Pe) : List Pe := l.filter fun x => !decide (x.c = c)
/-- The job in its box and what is left, both new. -/
structure L5 (H h : AH) (c : Int) (l : List Pe) (dv v : AV) : Prop where
  g : Grow H h
  n : H.next < h.next
  bx : h.get H.next = some (.cells [.int .i64 c, dv] .own)
  d : Dat h dv (datOf c l)
  df : Fresh H dv
  db : offRow dv H.next
  r : RowC 2 h v (notP c l).length (fl Pe.av (notP c l))
  rf : Fresh H v
  rb : offRow v H.next
  o : Apt (offRow dv) (offRow v)
theorem dat_hit {c : Int} {l : List Pe} {x : Pe} (h : x.c = c) : datOf c (l ++ [x]) = datOf c l ++ x.d ∧ notP c (l ++ [x]) = notP c l := by
  unfold datOf notP
  rw [List.filter_append, List.filter_append, List.filter_cons_of_pos (by simpa using h), List.filter_cons_of_neg (by simpa using h)]; simp
theorem dat_miss {c : Int} {l : List Pe} {x : Pe} (h : ¬ x.c = c) : datOf c (l ++ [x]) = datOf c l ∧ notP c (l ++ [x]) = notP c l ++ [x] := by
  unfold datOf notP
  rw [List.filter_append, List.filter_append, List.filter_cons_of_neg (by simpa using h), List.filter_cons_of_pos (by simpa using h)]; simp
theorem L5.hit {H h : AH} {c : Int} {l : List Pe} {dv v : AV} (hL : L5 H h c l dv v) {x : Pe} (hx : x.c = c) (hl : (datOf c l).length + x.d.length ≤ 100000000) :
    ∃ dv2 h2 h3, aAppend T 48 48 dv (.lst false 1 x.d.length (bytes x.d)) h = some (dv2, h2) ∧ h2.get H.next = some (.cells [.int .i64 c, dv] .own) ∧ aStore T 48 (.ptr H.next 1) dv2 h2 = some h3 ∧ L5 H h3 c (l ++ [x]) dv2 v := by
  obtain ⟨dv2, h2, q1, q2, q3, q4, q5, q6, q7⟩ := dat_app x.d hL.d hL.df hL.g hl
  have b2 : h2.get H.next = some (.cells [.int .i64 c, dv] .own) := by rw [q6 _ hL.n hL.db]; exact hL.bx
  have nb : offRow dv2 H.next := off_new q7 hL.n hL.db
  have hst := store_1 (T := T) (t := 48) (b := H.next) (o := 1) (v := dv2) (h := h2) T48 s48 (RowC.cells q2).1 (RowC.cells q2).2 b2 (by simp)
  refine ⟨dv2, h2, _, q1, b2, hst, ?_⟩
  have hn : h.next ≤ (h2.put H.next (.cells [.int .i64 c, dv2] .own)).next := by simpa using q5
  have ho : ∀ c, c ≠ H.next → (h2.put H.next (.cells [.int .i64 c, dv2] .own)).get c = h2.get c := fun c hc => by rw [AH.get_put, if_neg hc]
  obtain ⟨e1, e2⟩ := dat_hit (l := l) hx
  exact {
    g := ⟨Nat.le_trans hL.g.1 hn, fun c hc => by rw [AH.get_put, if_neg (by omega), q4.2 c hc]⟩
    n := Nat.lt_of_lt_of_le hL.n hn
    bx := by rw [AH.get_put, if_pos rfl]; rfl
    d := by
      rw [e1]
      exact q2.keep (Nat.le_of_eq (by simp)) fun b o l k z x e => by rw [AH.get_put, if_neg fun g => nb _ _ _ _ _ _ e g.symm]
    df := q3
    db := nb
    r := by
      rw [e2]
      refine hL.r.keep hn fun b o l k z x e => ?_
      rw [AH.get_put, if_neg fun g => hL.rb _ _ _ _ _ _ e g.symm]
      exact q6 b (hL.r.lt e) ((hL.o b).resolve_right fun g => g _ _ _ _ _ _ e rfl)
    rf := hL.rf
    rb := hL.rb
    o := fun c => by
      rcases Nat.lt_or_ge c h.next with hc | hc
      · rcases hL.o c with g | g
        · exact .inl (off_new q7 hc g)
        · exact .inr g
      · exact .inr (offRow_ge hL.r hc) }
theorem L5.miss {H h : AH} {c : Int} {l : List Pe} {dv v : AV} (hL : L5 H h c l dv v) {x : Pe} (hx : ¬ x.c = c) (hl : l.length ≤ 1000000) :
    ∃ v2 h2, aAppend T 50 50 v (.sl h.next 0 1 1 2 true) (h.alloc (.cells [.int .i64 x.c, .lst false 1 x.d.length (bytes x.d)] .own)) = some (v2, h2) ∧ L5 H h2 c (l ++ [x]) dv v2 := by
  have hll : (notP c l).length ≤ l.length := List.length_filter_le _ _
  obtain ⟨v2, h2, q1, q2, q3, q4, q5⟩ := hL.r.push (new := [.int .i64 x.c, .lst false 1 x.d.length (bytes x.d)]) T50 d50 T56 s56 (by decide) (by rw [b56]; decide) rfl (Pe.one x) (by rw [b56]; simp [maxBytes]; omega)
  obtain ⟨e1, e2⟩ := dat_miss (l := l) hx
  have hn : h.next ≤ h2.next := by omega
  have gn := hL.g.1
  refine ⟨v2, h2, q1, {
    g := ⟨Nat.le_trans hL.g.1 hn, fun c hc => by rw [q4 c (by omega) (hL.rf.off hc), hL.g.2 c hc]⟩
    n := Nat.lt_of_lt_of_le hL.n hn
    bx := by rw [q4 _ hL.n hL.rb]; exact hL.bx
    d := by
      rw [e1]
      exact hL.d.keep hn fun b o l k z x e => q4 b (RowC.lt hL.d e) ((hL.o b).resolve_left fun g => g _ _ _ _ _ _ e rfl)
    df := hL.df
    db := hL.db
    r := by
      rw [e2, List.length_append, fl_app]
      exact q2
    rf := fun b o l k z x e => by
      rcases q5 _ _ _ _ _ _ e with g | ⟨_, _, _, _, _, g⟩
      · omega
      · exact hL.rf _ _ _ _ _ _ g
    rb := off_new q5 hL.n hL.rb
    o := fun c => by
      rcases Nat.lt_or_ge c h.next with hc | hc
      · rcases hL.o c with g | g
        · exact .inl g
        · exact .inr (off_new q5 hc g)
      · exact .inl (offRow_ge hL.d hc) }⟩
theorem W5.last {H h : AH} {p b : Nat} {V : Vp} {off : Nat → Prop} {sq : Int → Int} {nv wv : AV} {now : List Pe} {J : List Jb} {c : Int} {dv v : AV} (hW : W5 H p V off b sq nv now wv J) (hL : L5 H h c now dv v) (hJ : J.length ≤ 1000000) :
    ∃ h2 wv2 h3, aMapUpd T 41 (.mp b) (.int .i64 c) (.int .i64 0) h = some h2 ∧ h2.get H.next = some (.cells [.int .i64 c, dv] .own) ∧ aAppend T 51 51 wv (.sl h2.next 0 1 1 2 true) (h2.alloc (.cells [.int .i64 c, dv] .own)) = some (wv2, h3) ∧
      W5 h3 p V off b (setS sq c 0) v (notP c now) wv2 (J ++ [⟨c, dv, datOf c now⟩]) := by
  have W1 := hW.pieces (nv2 := v) (now2 := notP c now) hL.r hL.g.1 (fun c hc _ => hL.g.2 c hc) (fun b o l k z x e => .inl (hL.rf _ _ _ _ _ _ e))
  obtain ⟨h2, m1, m2, m3, m4⟩ := W1.m.upd m41 c 0
  have hb := hW.bl
  have hn := hL.n
  have W2 : W5 h2 p V off b (setS sq c 0) v (notP c now) wv J := W1.map m2 ⟨by omega, fun c _ hn => m4 c hn⟩
  obtain ⟨wv2, h3, a1, a2⟩ := W2.want ⟨c, dv, datOf c now⟩ (hL.d.keep (by omega) fun b' o l k z x e => m4 b' (by have := hL.df _ _ _ _ _ _ e; omega))
    (fun b' o l k z x e => by
      have g := hL.df _ _ _ _ _ _ e
      exact ⟨hW.v.off_ge g, by omega, (hL.o b').resolve_left fun g => g _ _ _ _ _ _ e rfl, offRow_ge hW.w.r g⟩) hJ
  exact ⟨h2, wv2, h3, m1, by rw [m4 _ (by omega)]; exact hL.bx, a1, a2⟩
theorem L5.new {H h : AH} (c : Int) (hn : h.next = H.next + 1) (hg : Grow H h) (hb : h.get H.next = some (.cells [.int .i64 c, .nils] .own)) : L5 H h c [] .nils .nils :=
  { g := hg, n := by omega, bx := hb, d := RowC.nil _ _, df := fun b o l k z x e => (by cases e), db := fun b o l k z x e => (by cases e), r := RowC.nil _ _, rf := fun b o l k z x e => (by cases e), rb := fun b o l k z x e => (by cases e), o := fun c => .inl fun b o l k z x e => by cases e }
end Go.AM.X
namespace Go.AM.X
open Go Go.AM Go.Proofs Go.AM.Sx
set_option maxHeartbeats 3200000
set_option maxRecDepth 100000
set_option linter.unusedVariables false
noncomputable def tt4 : TI := (T 4).getD ⟨.bool, 0, 0, [], false, [], [], none⟩
theorem T4 : T 4 = some tt4 := by kernel_rfl
theorem d4 : tt4.desc = .bool := by kernel_rfl
theorem b4 : tt4.bytes = 1 := by kernel_rfl
theorem a4 : tt4.agg = false := by kernel_rfl
theorem z4 : tt4.zero = [.bool false] := by kernel_rfl
noncomputable def tt47 : TI := (T 47).getD ⟨.bool, 0, 0, [], false, [], [], none⟩
theorem T47 : T 47 = some tt47 := by kernel_rfl
theorem d47 : tt47.desc = .slice 53 := by kernel_rfl
noncomputable def tt53 : TI := (T 53).getD ⟨.bool, 0, 0, [], false, [], [], none⟩
theorem T53 : T 53 = some tt53 := by kernel_rfl
theorem s53 : tt53.size = 6 := by kernel_rfl
theorem a53 : tt53.agg = true := by kernel_rfl
theorem z53 : tt53.zero = [.int .i64 0, .int .i64 0, .int .i64 0, .int .i64 0, .nils, .bool false] := by kernel_rfl
theorem p53_0 : tt53.places[0]? = some (0, 1, false) := by kernel_rfl
theorem p53_2 : tt53.places[2]? = some (2, 1, false) := by kernel_rfl
theorem p53_3 : tt53.places[3]? = some (3, 1, false) := by kernel_rfl
theorem p53_4 : tt53.places[4]? = some (4, 1, false) := by kernel_rfl
theorem p53_5 : tt53.places[5]? = some (5, 1, false) := by kernel_rfl
theorem F5 : F 5 = some { body := (Tryd.f5.body.getD .skip), results := Tryd.f5.results.toList, rf := false } := by kernel_rfl
theorem R5 : regsOk T (Tryd.f5.body.getD .skip) = true := by kernel_rfl
/-- An act. -/
structure At where
  dd : Int
  on : Int
  cl : Int
  n : Int
  da : List Int
  en : Bool
def At.av (a : At) : List AV := [.int .i64 a.dd, .int .i64 a.on, .int .i64 a.cl, .int .i64 a.n, .lst false 1 a.da.length (bytes a.da), .bool a.en]
theorem At.len (a : At) : a.av.length = 6 := rfl
theorem actAt {l : List At} {i : Nat} {a : At} (ha : l[i]? = some a) : ∃ pl, aIndexAddr T 47 (.lst false 6 l.length (fl At.av l)) (.int .i64 (i : Nat)) = some (.fp pl) ∧ 6 ≤ pl.length ∧ pl.take 6 = [.int .i64 a.dd, .int .i64 a.on, .int .i64 a.cl, .int .i64 a.n, .lst false 1 a.da.length (bytes a.da), .bool a.en] := by
  have hi := (List.getElem?_eq_some_iff.1 ha).1
  have h1 := fl_at At.av 6 At.len ha []
  rw [List.append_nil] at h1
  have hlt : (i + 1) * 6 ≤ l.length * 6 := Nat.mul_le_mul_right _ hi
  have h2 : 6 ≤ ((fl At.av l).drop (i * 6)).length := by rw [List.length_drop, fl_len At.av 6 At.len]; omega
  refine ⟨(fl At.av l).drop (i * 6), ?_, h2, h1⟩
  rw [ia_lst T47 d47 T53 s53, if_pos ⟨by omega, by omega⟩]; simp
theorem store_a (h : AH) (a : At) : ∃ h2, aStore T 53 (.ptr h.next 0) (.agg [.int .i64 a.dd, .int .i64 a.on, .int .i64 a.cl, .int .i64 a.n, .lst false 1 a.da.length (bytes a.da), .bool a.en]) (h.alloc (.cells [.int .i64 0, .int .i64 0, .int .i64 0, .int .i64 0, .nils, .bool false] .own)) = some h2 ∧ h2.next = h.next + 1 ∧ h2.get h.next = some (.cells [.int .i64 a.dd, .int .i64 a.on, .int .i64 a.cl, .int .i64 a.n, .lst false 1 a.da.length (bytes a.da), .bool a.en] .own) ∧ Grow h h2 := by
  have h1 := store_n (T := T) (t := 53) (b := h.next) (o := 0) (v := .agg a.av) (vs := a.av) (h := h.alloc (.cells [.int .i64 0, .int .i64 0, .int .i64 0, .int .i64 0, .nils, .bool false] .own)) (cs := [.int .i64 0, .int .i64 0, .int .i64 0, .int .i64 0, .nils, .bool false]) T53 rfl (by rw [s53]; rfl) rfl (by rw [AH.get_alloc, if_pos rfl]) (by simp [At.len])
  refine ⟨_, h1, by simp, by rw [AH.get_put, if_pos rfl]; rfl, by simp, fun c hc => ?_⟩
  rw [AH.get_put, if_neg (by omega), AH.get_alloc, if_neg (by omega)]
theorem V21b {I : Nat → Option (List AV → AH → Rs)} (h30 : I 30 = none) (h32 : I 32 = none) (h57 : I 57 = none) (h38 : I 38 = none) (h39 : I 39 = none) (h43 : I 43 = none) (h42 : I 42 = none) (h21 : I 21 = none) (h60 : I 60 = none) (m p : Nat) (c n : Int) (x : AV) (en : Bool) (V : Vp) (off : Nat → Prop) (h : AH) (new : List Int) (hV : OkV h p V off) (hq0 : ¬ V.q = 0) (hq : ∀ s ∈ V.ss, 0 ≤ s.q ∧ s.q ≤ 255 ∧ s.d.length ≤ 5000)
    (hx : Pc off h x new) (hqb : V.q ≤ 1000) (hjl : V.js.length ≤ 1000000) :
    ∃ h2 off2, call F I T (m + 310) 21 [.ptr p 0, .int .i64 c, .int .i64 n, x, .bool en] h = some (.int .i64 (SendV V c n new en).1, h2) ∧ OkV h2 p (SendV V c n new en).2 off2 ∧ Stf h h2 off off2 := by
  cases hb : barV V c n new.length en with
  | none =>
    refine V21 h30 h32 h57 h38 h39 h43 h42 h21 h60 m p c n x en V off h new hV hq0 hq hx ?_ hjl
    unfold barV at hb
    split at hb
    · cases hb
    · split at hb
      · cases hb
      · omega
  | some e =>
    have hV0 := hV
    obtain ⟨P, dat, js, hP, hVe, hoe⟩ := hV
    have hbar : sendBar P c n new.length en = barV V c n new.length en := by
      unfold sendBar barV; rw [hVe, find_v]; rfl
    have hg := Grow.alloc h (.cells [.int .i64 c] .own)
    unfold SendV
    rw [hb]
    exact ⟨_, off, run21no h30 h32 h57 h38 h39 h43 h42 h21 h60 m p c n x new.length en P h hP.ok (by rw [hVe] at hq0; exact hq0) hx.1 e (by rw [hbar]; exact hb), hV0.grow hg, Stf.grow off hg⟩
theorem tail5 {I : Nat → Option (List AV → AH → Rs)} (h32 : I 32 = none) (h14 : I 14 = none) (h22 : I 22 = none) (m p b n : Nat) (V : Vp) (off : Nat → Prop) (sq : Int → Int) (nv wv : AV) (now : List Pe) (J : List Jb) (wt : List (Int × List Int)) (h : AH) (hW : W5 h p V off b sq nv now wv J) (hM : MI n V now sq wt) (hs : ∀ s ∈ V.ss, s.s ≤ 29) (hn : n ≤ m ∧ n ≤ 100000) :
    ∃ v h2 sq2 now2, call F I T (m + 260) 22 [.ptr p 0, nv, .mp b] h = some (v, h2) ∧ W5 h2 p V off b sq2 v now2 wv J ∧ KI n V now2 sq2 wt := by
  obtain ⟨v, h2, q1, q2, q3⟩ := tail22 h32 h14 h22 m p b n V off sq nv wv now J wt h hW hM hs hn
  exact ⟨v, h2, _, _, q1, q2, q3⟩
theorem dat_le (c : Int) (l : List Pe) (q : Nat) : (datOf c (l.take q)).length ≤ (datOf c l).length := by
  have h : datOf c l = datOf c (l.take q) ++ datOf c (l.drop q) := by
    conv => lhs; rw [← List.take_append_drop q l]
    unfold datOf; rw [List.filter_append, List.flatMap_append]
  rw [h, List.length_append]; omega
theorem store_jb (h : AH) (c : Int) : ∃ h2, aStore T 58 (.ptr h.next 0) (.agg [.int .i64 c, .nils]) (h.alloc (.cells [.int .i64 0, .nils] .own)) = some h2 ∧ L5 h h2 c [] .nils .nils := by
  have h1 := store_n (T := T) (t := 58) (b := h.next) (o := 0) (v := .agg [.int .i64 c, .nils]) (vs := [.int .i64 c, .nils]) (h := h.alloc (.cells [.int .i64 0, .nils] .own)) (cs := [.int .i64 0, .nils]) T58 rfl (by rw [s58]; rfl) rfl (by rw [AH.get_alloc, if_pos rfl]) (by simp)
  exact ⟨_, h1, L5.new c (by simp) ⟨by simp, fun c hc => by rw [AH.get_put, if_neg (by omega), AH.get_alloc, if_neg (by omega)]⟩ (by rw [AH.get_put, if_pos rfl]; rfl)⟩
theorem law5 {I : Nat → Option (List AV → AH → Rs)} (h11 : I 11 = some (pureG g11)) (h30 : I 30 = none) (h32 : I 32 = none) (h58 : I 58 = none) (h37 : I 37 = none) (h57 : I 57 = none) (h38 : I 38 = none) (h33 : I 33 = none) (h12 : I 12 = none) (h34 : I 34 = none) (h35 : I 35 = none) (h36 : I 36 = none) (h13 : I 13 = none) (h20 : I 20 = none) (h39 : I 39 = none) (h43 : I 43 = none) (h42 : I 42 = none) (h21 : I 21 = none) (h14 : I 14 = none) (h22 : I 22 = none) (h23 : I 23 = none) (h45 : I 45 = none) (h24 : I 24 = none) (h5 : I 5 = none) (h25 : I 25 = none) (h59 : I 59 = none) (h60 : I 60 = none) (h35 : I 35 = none) (room : Int) (hr0 : 0 ≤ room ∧ room ≤ 255) (l : List At) (tw : List Int) (htw : ∀ x ∈ tw, 0 ≤ x ∧ x ≤ 255) :
    ∃ h', call F I T 5000 5 [.int .u8 room, .lst false 6 l.length (fl At.av l), .lst false 1 tw.length (bytes tw)] e0 = some (.bool true, h') := by
  have hlen : ∀ h, aLen T 47 (.lst false 6 l.length (fl At.av l)) h = some (.int .i64 (l.length : Nat)) := fun h => by simp [aLen, T47, d47]
  have hlt : ∀ h, aLen T 48 (.lst false 1 tw.length (bytes tw)) h = some (.int .i64 (tw.length : Nat)) := fun h => by simp [aLen, T48, d48]
  have ia := fun i a (ha : l[i]? = some a) => actAt ha
  obtain ⟨VL, hVL⟩ : ∃ VL, VL = AV.lst false 6 l.length (fl At.av l) := ⟨_, rfl⟩
  obtain ⟨VT, hVT⟩ : ∃ VT, VT = AV.lst false 1 tw.length (bytes tw) := ⟨_, rfl⟩
  rw [← hVL] at hlen ia ⊢
  rw [← hVT] at hlt ⊢
  have w1 : IntKind.i64.wrap room = room := wrap_i64 (by omega) (by omega)
  have w2 : room.tmod 5 = room % 5 := Int.tmod_eq_emod_of_nonneg hr0.1
  have w3 : IntKind.i64.wrap (room % 5) = room % 5 := wrap_i64 (by omega) (by omega)
  have w4 : IntKind.i64.wrap (1 + room % 5) = 1 + room % 5 := wrap_i64 (by omega) (by omega)
  have hQ : okQ 20 = true ∧ within (1 + room % 5) 1 20 = true := ⟨by decide, by unfold within; simp; omega⟩
  have k20 := fun m h => K20 (by assumption) (by assumption) m 20 (1 + room % 5) h hQ
  rw [call_F (by decide) h5 F5 rfl R5]; simp only [Tryd.f5, Option.getD]
  by_cases c1 : (250 : Int) < (l.length : Int)
  · simp +contextual (maxSteps := 3000000) only [↓code_seq, ↓code_region, ↓code_cond, ↓code_ret, aCond_bool, ↓ops_nil, ↓ops_cons, run_none, run_someT, run_someF, ↓run0_v, ↓run0_r, ↓seqK_normal, ↓seqK_ret, ↓retK_ret, put_same, put_ne, env0_at, ev_tmp, ev_const, ev_func, oc_int, oc_bool, oc_nilp, o_move, o_assign, o_pick, o_bin, o_call, o_len, o_convert, o_extract, g_none, g_some, pick_bool, bin_add, bin_rem, bin_eql, bin_neq, bin_gtr, extract_tup, next_e0, resultsOf, oneOrAll, Option.bind_some, Option.map_some, Option.getD_some, ↓reduceIte, Nat.reduceEqDiff, not_false_eq_true, reduceCtorEq, List.getElem?_cons_zero, List.getElem?_cons_succ, List.getElem?_toArray, Bool.false_eq_true, List.map_cons, List.map_nil, List.append_nil, List.nil_append, gt_iff_lt, Bool.not_true, ne_eq, conv_int T5 T3 d3, pn_eql T23 d23, pn_neq T23 d23, K11 h11, w1, w2, w4, k20, hlen, c1, (show ¬ (5 : Int) = 0 by decide), decide_true, callV_fn (g := 20) (by decide), callV_fn (g := 11) (by decide)]
    exact ⟨_, rfl⟩
  by_cases c2 : (250 : Int) < (tw.length : Int)
  · simp +contextual (maxSteps := 3000000) only [↓code_seq, ↓code_region, ↓code_cond, ↓code_ret, aCond_bool, ↓ops_nil, ↓ops_cons, run_none, run_someT, run_someF, ↓run0_v, ↓run0_r, ↓seqK_normal, ↓seqK_ret, ↓retK_ret, put_same, put_ne, env0_at, ev_tmp, ev_const, ev_func, oc_int, oc_bool, oc_nilp, o_move, o_assign, o_pick, o_bin, o_call, o_len, o_convert, o_extract, g_none, g_some, pick_bool, bin_add, bin_rem, bin_eql, bin_neq, bin_gtr, extract_tup, next_e0, resultsOf, oneOrAll, Option.bind_some, Option.map_some, Option.getD_some, decide_eq_true_eq, ↓reduceIte, Nat.reduceEqDiff, not_false_eq_true, reduceCtorEq, List.getElem?_cons_zero, List.getElem?_cons_succ, List.getElem?_toArray, Bool.false_eq_true, List.map_cons, List.map_nil, List.append_nil, List.nil_append, gt_iff_lt, Bool.not_true, ne_eq, conv_int T5 T3 d3, pn_eql T23 d23, pn_neq T23 d23, K11 h11, w1, w2, w4, k20, hlen, hlt, c1, c2, (show ¬ (5 : Int) = 0 by decide), decide_true, callV_fn (g := 20) (by decide), callV_fn (g := 11) (by decide)]
    exact ⟨_, rfl⟩
  simp +contextual (maxSteps := 3000000) only [↓code_skip, ↓code_seq, ↓code_region, ↓code_cond, ↓code_block, ↓code_loop, aCond_bool, ↓ops_nil, ↓ops_cons, run_none, run_someF, ↓run0_v, ↓run0_r, ↓seqK_normal, put_same, put_ne, env0_at, ev_tmp, ev_const, ev_func, oc_int, oc_bool, oc_nils, oc_nilp, o_move, o_assign, o_pick, o_bin, o_call, o_len, o_convert, o_extract, g_none, g_some, pick_bool, bin_add, bin_rem, bin_neq, bin_gtr, extract_tup, next_e0, Option.bind_some, Option.getD_some, decide_eq_true_eq, ↓reduceIte, Nat.reduceEqDiff, not_false_eq_true, Nat.reduceAdd, reduceCtorEq, List.getElem?_cons_zero, List.getElem?_cons_succ, List.getElem?_toArray, Bool.false_eq_true, List.map_cons, List.map_nil, List.append_nil, List.nil_append, AH.next_alloc, gt_iff_lt, Bool.not_true, ne_eq, conv_int T5 T3 d3, pn_eql T23 d23, o_makeMap, w1, w2, w4, k20, hlen, hlt, c1, c2, (show ¬ (5 : Int) = 0 by decide), decide_true, callV_fn (g := 20) (by decide)]
  obtain ⟨off0, o1, o2⟩ := okV0 e0 20 (1 + room % 5)
  obtain ⟨hA, hhA⟩ : ∃ hA, hA = e0.alloc (prt 20 (1 + room % 5)) := ⟨_, rfl⟩
  have nA : hA.next = 1 := by rw [hhA]; rfl
  have hm0 := MapN.new hA
  rw [nA] at hm0
  rw [← hhA] at o1
  have hW0 : W5 (hA.alloc (.map [])) 0 ⟨20, 1 + room % 5, 0, [], [], []⟩ off0 1 (fun _ => 0) .nils [] .nils [] :=
    { v := o1.grow (Grow.alloc _ _), m := hm0, n := RowC.nil _ _
      w := { r := RowC.nil _ _, f := fun b o l k z x e => (by cases e), d := fun j hj => (by cases hj), df := fun j hj => (by cases hj), o := fun j hj => (by cases hj) }
      bl := by show 1 < hA.next + 1; omega
      vb := o1.off_ge (by omega)
      nb := fun b o l k z x e => by cases e
      wb := ⟨fun b o l k z x e => (by cases e), fun j hj => by cases hj⟩
      vn := fun c => .inr fun b o l k z x e => by cases e
      vw := fun c => .inr ⟨fun b o l k z x e => (by cases e), fun j hj => by cases hj⟩
      nw := fun c => .inl fun b o l k z x e => by cases e }
  have hK0 : KI 0 ⟨20, 1 + room % 5, 0, [], [], []⟩ [] (fun _ => 0) [] :=
    { q := rfl, r := ⟨by show 1 ≤ 1 + room % 5; omega, by show 1 + room % 5 ≤ 5; omega⟩, js := rfl, ss := fun s hs => (by cases hs), mid := fun c hc => absurd rfl hc, nd := List.nodup_nil, wb := fun w hw => (by cases hw), wl := Nat.zero_le _, sl := Nat.zero_le _, nl := Nat.le_refl _, jl := Nat.le_refl _, jd := fun j hj => (by cases hj), sv := fun x hx => (by cases hx), sq0 := fun c hc => absurd rfl hc, sm := fun s hs => by cases hs }
  refine iterL_wp (Q := fun r => ∃ h', r = some (.bool true, h')) (N := l.length) (Inv := fun k e h' => ∃ i off V sq nv now wv J, k + i = l.length ∧ W5 h' 0 V off 1 sq nv now wv J ∧ KI i V now sq (J.map jv) ∧ i ≤ l.length ∧ e 1 = VL ∧ e 2 = VT ∧ e 7 = .ptr 0 0 ∧ e 9 = nv ∧ e 10 = .mp 1 ∧ e 11 = wv ∧ e 12 = .int .i64 (i : Nat)) ?_ ?_ (by omega)
  · rintro k e h' K' ⟨i, off, V, sq, nv, now, wv, J, hk, hW, hK, hil, e1, e2, e7, e9, e10, e11, e12⟩ hnext hexit
    by_cases hi : i < l.length
    · have d1 : (i : Int) < (l.length : Int) := by omega
      obtain ⟨a, ha⟩ : ∃ a, l[i]? = some a := ⟨l[i], List.getElem?_eq_getElem hi⟩
      obtain ⟨pl, g1, g2, g3⟩ := ia i a ha
      obtain ⟨hZ, y1, y2, y3, y4⟩ := store_a h' a
      have hWz := hW.grow y4
      have c7 : IntKind.i64.wrap ((i : Int) + 1) = ((i + 1 : Nat) : Int) := by rw [wrap_i64 (by omega) (by omega)]; rfl
      have hVq : ¬ V.q = 0 := by rw [hK.q]; decide
      by_cases c0 : a.dd = 0
      · obtain ⟨h2, off2, k1, k2, k3⟩ := V12 h30 h32 h58 h37 h57 h38 h33 h12 h59 h60 4696 0 a.cl a.n V off hZ hWz.v hVq
        obtain ⟨v, h3, sq2, now2, t1, t2, t3⟩ := tail5 h32 h14 h22 4739 0 1 (i + 1) _ off2 sq nv wv now J _ h2 (hWz.op k2 k3) (hK.want a.cl a.n) hK.sm ⟨by omega, by omega⟩
        simp +contextual (maxSteps := 3000000) only [↓code_skip, ↓code_seq, ↓code_region, ↓code_cond, ↓code_block, aCond_bool, ↓ops_nil, ↓ops_cons, run_none, ↓run0_v, ↓run0_h, ↓run0_r, ↓seqK_normal, ↓blkK_normal, put_same, put_ne, put_none, ev_tmp, ev_const, ev_func, oc_int, o_move, o_assign, o_bin, o_call, o_len, o_alloc, o_load, o_store, o_fieldAddr, o_indexAddr, g_none, bin_add, bin_eql, bin_lss, decide_eq_true_eq, ↓reduceIte, Nat.reduceEqDiff, not_false_eq_true, List.getElem?_cons_zero, List.getElem?_cons_succ, List.map_cons, List.map_nil, List.append_nil, List.nil_append, ne_eq, load_fpA T53 a53, s53, alloc_t T53, z53, fa_ptr T53 p53_0 (by decide), load_p1 T3 a3, loadc_def, fa_ptr T53 p53_2 (by decide), fa_ptr T53 p53_3 (by decide), run0_h, Nat.zero_add, Nat.add_zero, e1, e7, e9, e10, e12, d1, hlen, g1, g2, g3, y1, y3, eq_true c0, k1, t1, c7, callV_fn (g := 12) (by decide), callV_fn (g := 22) (by decide)]
        refine hnext (k - 1) _ _ (by omega) ⟨i + 1, off2, { V with ws := WantPV V a.cl a.n }, sq2, v, now2, wv, J, by omega, ?_, ?_, ?_, ?_, ?_, ?_, ?_, ?_, ?_, ?_⟩
        · exact t2
        · exact t3
        · omega
        · simp only [put_ne, Nat.reduceEqDiff, not_false_eq_true, ne_eq, e1]
        · simp only [put_ne, Nat.reduceEqDiff, not_false_eq_true, ne_eq, e2]
        · simp only [put_ne, Nat.reduceEqDiff, not_false_eq_true, ne_eq, e7]
        · simp only [put_same, put_ne, Nat.reduceEqDiff, not_false_eq_true, ne_eq]
        · simp only [put_ne, Nat.reduceEqDiff, not_false_eq_true, Nat.succ_ne_self, ne_eq, e10]
        · simp only [put_ne, Nat.reduceEqDiff, not_false_eq_true, ne_eq, e11]
        · simp only [put_same]
      by_cases c3 : a.dd = 3
      · obtain ⟨h2, off2, k1, k2, k3⟩ := V13 h32 h57 h34 h35 h36 h13 h35 4599 0 V off hZ hWz.v hVq (by have := hK.r; omega) (fun w hw => by have := hK.wb w hw; omega) (fun s hs => by have := (hK.ss s hs).2.2.2.2.1; omega)
        obtain ⟨m1, m2⟩ := hK.tick
        obtain ⟨v, h3, sq2, now2, t1, t2, t3⟩ := tail5 h32 h14 h22 4739 0 1 (i + 1) _ off2 sq nv wv now J _ h2 (hWz.op k2 k3) m1 m2 ⟨by omega, by omega⟩
        simp +contextual (maxSteps := 3000000) only [↓code_skip, ↓code_seq, ↓code_region, ↓code_cond, ↓code_block, aCond_bool, ↓ops_nil, ↓ops_cons, run_none, ↓run0_v, ↓run0_h, ↓run0_r, ↓seqK_normal, ↓blkK_normal, put_same, put_ne, put_none, ev_tmp, ev_const, ev_func, oc_int, o_move, o_assign, o_bin, o_call, o_len, o_alloc, o_load, o_store, o_fieldAddr, o_indexAddr, g_none, bin_add, bin_eql, bin_lss, decide_eq_true_eq, ↓reduceIte, Nat.reduceEqDiff, not_false_eq_true, List.getElem?_cons_zero, List.map_cons, List.map_nil, List.append_nil, List.nil_append, ne_eq, load_fpA T53 a53, s53, alloc_t T53, z53, fa_ptr T53 p53_0 (by decide), load_p1 T3 a3, loadc_def, run0_h, Nat.add_zero, e1, e7, e9, e10, e12, d1, hlen, g1, g2, g3, y1, y3, c0, eq_true c3, k1, t1, c7, callV_fn (g := 13) (by decide), callV_fn (g := 22) (by decide)]
        refine hnext (k - 1) _ _ (by omega) ⟨i + 1, off2, tickV V, sq2, v, now2, wv, J, by omega, ?_, ?_, ?_, ?_, ?_, ?_, ?_, ?_, ?_, ?_⟩
        · exact t2
        · exact t3
        · omega
        · simp only [put_ne, Nat.reduceEqDiff, not_false_eq_true, ne_eq, e1]
        · simp only [put_ne, Nat.reduceEqDiff, not_false_eq_true, ne_eq, e2]
        · simp only [put_ne, Nat.reduceEqDiff, not_false_eq_true, ne_eq, e7]
        · simp only [put_same, put_ne, Nat.reduceEqDiff, not_false_eq_true, ne_eq]
        · simp only [put_ne, Nat.reduceEqDiff, not_false_eq_true, Nat.succ_ne_self, ne_eq, e10]
        · simp only [put_ne, Nat.reduceEqDiff, not_false_eq_true, ne_eq, e11]
        · simp only [put_same]
      by_cases c5 : a.dd = 2 ∨ a.dd = 5
      rotate_left
      · have c21 : ¬ a.dd = 2 := fun g => c5 (.inl g)
        have c51 : ¬ a.dd = 5 := fun g => c5 (.inr g)
        obtain ⟨v, h3, sq2, now2, t1, t2, t3⟩ := tail5 h32 h14 h22 4739 0 1 (i + 1) _ off sq nv wv now J _ hZ hWz (hK.toMI.mono (Nat.le_succ i)) hK.sm ⟨by omega, by omega⟩
        simp +contextual (maxSteps := 3000000) only [↓code_skip, ↓code_seq, ↓code_region, ↓code_cond, ↓code_block, aCond_bool, ↓ops_nil, ↓ops_cons, run_none, ↓run0_v, ↓run0_h, ↓run0_r, ↓seqK_normal, ↓blkK_normal, put_same, put_ne, put_none, ev_tmp, ev_const, ev_func, oc_int, o_move, o_assign, o_bin, o_call, o_len, o_alloc, o_load, o_store, o_fieldAddr, o_indexAddr, g_none, bin_add, bin_eql, bin_lss, decide_eq_true_eq, ↓reduceIte, Nat.reduceEqDiff, not_false_eq_true, List.getElem?_cons_zero, List.map_cons, List.map_nil, List.append_nil, List.nil_append, ne_eq, load_fpA T53 a53, s53, alloc_t T53, z53, fa_ptr T53 p53_0 (by decide), load_p1 T3 a3, loadc_def, run0_h, Nat.add_zero, e1, e7, e9, e10, e12, d1, hlen, g1, g2, g3, y1, y3, c0, c3, c21, c51, t1, c7, callV_fn (g := 22) (by decide)]
        refine hnext (k - 1) _ _ (by omega) ⟨i + 1, off, V, sq2, v, now2, wv, J, by omega, ?_, ?_, ?_, ?_, ?_, ?_, ?_, ?_, ?_, ?_⟩
        · exact t2
        · exact t3
        · omega
        · simp only [put_ne, Nat.reduceEqDiff, not_false_eq_true, ne_eq, e1]
        · simp only [put_ne, Nat.reduceEqDiff, not_false_eq_true, ne_eq, e2]
        · simp only [put_ne, Nat.reduceEqDiff, not_false_eq_true, ne_eq, e7]
        · simp only [put_same, put_ne, Nat.reduceEqDiff, not_false_eq_true, ne_eq]
        · simp only [put_ne, Nat.reduceEqDiff, not_false_eq_true, Nat.succ_ne_self, ne_eq, e10]
        · simp only [put_ne, Nat.reduceEqDiff, not_false_eq_true, ne_eq, e11]
        · simp only [put_same]
      · have hsr : 0 ≤ sq a.cl ∧ sq a.cl ≤ 255 := by
          by_cases hz : sq a.cl = 0
          · omega
          · obtain ⟨s, hs, hsc⟩ := List.mem_map.1 (hK.sq0 _ hz)
            have h9 := hK.ss s hs
            rw [hsc] at h9
            omega
        obtain ⟨N, hN⟩ : ∃ N, N = sq a.cl % 255 + 1 := ⟨_, rfl⟩
        have u1 : (sq a.cl).tmod 255 = sq a.cl % 255 := Int.tmod_eq_emod_of_nonneg hsr.1
        have u2 : IntKind.i64.wrap (sq a.cl % 255) = sq a.cl % 255 := wrap_i64 (by omega) (by omega)
        have u3 : IntKind.i64.wrap (sq a.cl % 255 + 1) = N := by rw [wrap_i64 (by omega) (by omega)]; exact hN.symm
        have hlk := hWz.m.look m41 a.cl
        obtain ⟨h2, off2, k1, k2, k3⟩ := V21b h30 h32 h57 h38 h39 h43 h42 h21 h60 4689 0 a.cl N (.lst false 1 a.da.length (bytes a.da)) a.en V off hZ a.da hWz.v hVq (fun s hs => by have := hK.ss s hs; omega) (pc_lst a.da) (by rw [hK.q]; decide) (by have := hK.jl; omega)
        have hsend := hK.send a.cl a.da a.en
        rw [← hN] at hsend
        rcases hsend with ⟨z1, z2, z3⟩ | z | z
        · obtain ⟨v, h3, sq2, now2, t1, t2, t3⟩ := tail5 h32 h14 h22 4739 0 1 (i + 1) _ off2 sq nv wv now J _ h2 (hWz.op k2 k3) z2 z3 ⟨by omega, by omega⟩
          rcases c5 with c21 | c51
          · simp +contextual (maxSteps := 3000000) only [↓code_skip, ↓code_seq, ↓code_region, ↓code_cond, ↓code_block, ↓code_exit, aCond_bool, ↓ops_nil, ↓ops_cons, run_none, ↓run0_v, ↓run0_h, ↓run0_r, ↓seqK_normal, ↓seqK_exit, ↓blkK_normal, ↓blkK_exit, put_same, put_ne, put_none, ev_tmp, ev_const, ev_func, oc_int, o_move, o_assign, o_bin, o_call, o_len, o_alloc, o_load, o_store, o_fieldAddr, o_indexAddr, g_none, bin_add, bin_rem, bin_eql, bin_neq, bin_lss, decide_eq_true_eq, ↓reduceIte, Nat.reduceEqDiff, not_false_eq_true, List.getElem?_cons_zero, List.getElem?_cons_succ, List.map_cons, List.map_nil, List.append_nil, List.nil_append, Bool.not_eq_eq_eq_not, Bool.not_true, ne_eq, decide_eq_false_iff_not, load_fpA T53 a53, s53, alloc_t T53, z53, fa_ptr T53 p53_0 (by decide), load_p1 T3 a3, loadc_def, fa_ptr T53 p53_2 (by decide), o_lookup, fa_ptr T53 p53_4 (by decide), load_p1 T48 a48, fa_ptr T53 p53_5 (by decide), load_p1 T4 a4, run0_h, Nat.zero_add, Nat.add_zero, e1, e7, e9, e10, e12, d1, hlen, g1, g2, g3, y1, y3, c0, c3, eq_true c21, hlk, u1, u3, (show ¬ (255 : Int) = 0 by decide), k1, z1, t1, c7, callV_fn (g := 21) (by decide), callV_fn (g := 22) (by decide)]
            refine hnext (k - 1) _ _ (by omega) ⟨i + 1, off2, (SendV V a.cl N a.da a.en).2, sq2, v, now2, wv, J, by omega, ?_, ?_, ?_, ?_, ?_, ?_, ?_, ?_, ?_, ?_⟩
            · exact t2
            · exact t3
            · omega
            · simp only [put_ne, Nat.reduceEqDiff, not_false_eq_true, ne_eq, e1]
            · simp only [put_ne, Nat.reduceEqDiff, not_false_eq_true, ne_eq, e2]
            · simp only [put_ne, Nat.reduceEqDiff, not_false_eq_true, ne_eq, e7]
            · simp only [put_same, put_ne, Nat.reduceEqDiff, not_false_eq_true, ne_eq]
            · simp only [put_ne, Nat.reduceEqDiff, not_false_eq_true, Nat.succ_ne_self, ne_eq, e10]
            · simp only [put_ne, Nat.reduceEqDiff, not_false_eq_true, ne_eq, e11]
            · simp only [put_same]
          · have c21 : ¬ a.dd = 2 := by omega
            simp +contextual (maxSteps := 3000000) only [↓code_skip, ↓code_seq, ↓code_region, ↓code_cond, ↓code_block, ↓code_exit, aCond_bool, ↓ops_nil, ↓ops_cons, run_none, ↓run0_v, ↓run0_h, ↓run0_r, ↓seqK_normal, ↓seqK_exit, ↓blkK_normal, ↓blkK_exit, put_same, put_ne, put_none, ev_tmp, ev_const, ev_func, oc_int, o_move, o_assign, o_bin, o_call, o_len, o_alloc, o_load, o_store, o_fieldAddr, o_indexAddr, g_none, bin_add, bin_rem, bin_eql, bin_neq, bin_lss, decide_eq_true_eq, ↓reduceIte, Nat.reduceEqDiff, not_false_eq_true, List.getElem?_cons_zero, List.getElem?_cons_succ, List.map_cons, List.map_nil, List.append_nil, List.nil_append, Bool.not_eq_eq_eq_not, Bool.not_true, ne_eq, decide_eq_false_iff_not, load_fpA T53 a53, s53, alloc_t T53, z53, fa_ptr T53 p53_0 (by decide), load_p1 T3 a3, loadc_def, fa_ptr T53 p53_2 (by decide), o_lookup, fa_ptr T53 p53_4 (by decide), load_p1 T48 a48, fa_ptr T53 p53_5 (by decide), load_p1 T4 a4, run0_h, Nat.zero_add, Nat.add_zero, e1, e7, e9, e10, e12, d1, hlen, g1, g2, g3, y1, y3, c0, c3, c21, eq_true c51, hlk, u1, u3, (show ¬ (255 : Int) = 0 by decide), k1, z1, t1, c7, callV_fn (g := 21) (by decide), callV_fn (g := 22) (by decide)]
            refine hnext (k - 1) _ _ (by omega) ⟨i + 1, off2, (SendV V a.cl N a.da a.en).2, sq2, v, now2, wv, J, by omega, ?_, ?_, ?_, ?_, ?_, ?_, ?_, ?_, ?_, ?_⟩
            · exact t2
            · exact t3
            · omega
            · simp only [put_ne, Nat.reduceEqDiff, not_false_eq_true, ne_eq, e1]
            · simp only [put_ne, Nat.reduceEqDiff, not_false_eq_true, ne_eq, e2]
            · simp only [put_ne, Nat.reduceEqDiff, not_false_eq_true, ne_eq, e7]
            · simp only [put_same, put_ne, Nat.reduceEqDiff, not_false_eq_true, ne_eq]
            · simp only [put_ne, Nat.reduceEqDiff, not_false_eq_true, Nat.succ_ne_self, ne_eq, e10]
            · simp only [put_ne, Nat.reduceEqDiff, not_false_eq_true, ne_eq, e11]
            · simp only [put_same]
        · obtain ⟨z1, z2, z3, z4⟩ := z
          obtain ⟨V2, hV2⟩ : ∃ V2, V2 = (SendV V a.cl N a.da a.en).2 := ⟨_, rfl⟩
          rw [z1] at k1
          rw [← hV2] at k2 z3 z4
          rw [z2] at g3 y1 y3 k1
          have oB : off h'.next := hW.v.off_ge (Nat.le_refl _)
          have hW1 := hW.bl
          have k31 := k3.1
          have gB2 := (k3.2 h'.next (by omega) oB).1.trans y3
          have oB2 := (k3.2 h'.next (by omega) oB).2
          have W1 := hWz.op k2 k3
          obtain ⟨h3, m1, m2, m3, m4⟩ := W1.m.upd m41 a.cl N
          have W2 : W5 h3 0 V2 off2 1 (setS sq a.cl N) nv now wv J := W1.map m2 ⟨by omega, fun c _ hn => m4 c hn⟩
          have gB3 := (m4 h'.next (by omega)).trans gB2
          have hnl := hK.nl
          obtain ⟨nv2, h4, p1, p2, p3, p4, p5⟩ := W2.n.push (new := [.int .i64 a.cl, .lst false 1 a.da.length (bytes a.da)]) T50 d50 T56 s56 (by decide) (by rw [b56]; decide) rfl (Pe.one ⟨a.cl, a.da⟩) (by rw [b56]; simp [maxBytes]; omega)
          have W3 : W5 h4 0 V2 off2 1 (setS sq a.cl N) nv2 (now ++ [⟨a.cl, a.da⟩]) wv J := W2.pieces (by rw [fl_app, List.length_append]; exact p2) (by omega) p4 p5
          have gB4 := (p4 h'.next (by omega) (offRow_ge hW.n (Nat.le_refl _))).trans gB3
          obtain ⟨h5, st1, L50⟩ := store_jb h4 a.cl
          obtain ⟨now3, hn3⟩ : ∃ now3, now3 = now ++ [(⟨a.cl, a.da⟩ : Pe)] := ⟨_, rfl⟩
          have hsq3 : setS (setS sq a.cl N) a.cl 0 = setS sq a.cl 0 := funext fun k => by unfold setS; by_cases hk : k = a.cl <;> simp [hk]
          have hnp3 : notP a.cl now3 = now.filter fun x => !decide (x.c = a.cl) := by rw [hn3]; exact (dat_hit (c := a.cl) (x := ⟨a.cl, a.da⟩) rfl).2
          rw [← hn3] at z3
          have hd3 : (datOf a.cl now3).length ≤ 5000 := z3.jd (a.cl, datOf a.cl now3) (by rw [z3.js]; simp)
          have hl3 : now3.length ≤ 300 := by rw [hn3, List.length_append]; simp; omega
          obtain ⟨B0, hB0⟩ : ∃ B0, B0 = h'.next := ⟨_, rfl⟩
          have hB4 : B0 < h4.next := by omega
          have gBB : h4.get B0 = some (.cells [.int .i64 a.dd, .int .i64 a.on, .int .i64 a.cl, .int .i64 a.n, .lst false 1 a.da.length (bytes a.da), .bool true] .own) := by rw [hB0]; exact gB4
          have hnext0 := hnext
          obtain ⟨k0, hk0⟩ : ∃ k0, k0 = k := ⟨k, rfl⟩
          by_cases ct : (i : Int) < (tw.length : Int)
          rotate_left
          · rcases c5 with c21 | c51
            · simp +contextual (maxSteps := 3000000) only [↓code_skip, ↓code_seq, ↓code_region, ↓code_cond, ↓code_block, ↓code_loop, aCond_bool, ↓ops_nil, ↓ops_cons, run_none, run_someT, ↓run0_v, ↓run0_h, ↓run0_r, ↓seqK_normal, put_same, put_ne, put_none, ev_tmp, ev_const, ev_func, oc_int, oc_bool, oc_nils, o_move, o_assign, o_pick, o_bin, o_call, o_len, o_alloc, o_build, o_buildSlice, o_load, o_store, o_un, o_fieldAddr, o_indexAddr, o_append, g_none, g_some, pick_bool, bin_add, bin_rem, bin_eql, bin_neq, bin_lss, Option.bind_some, Option.map_some, decide_eq_true_eq, ↓reduceIte, Nat.reduceEqDiff, not_false_eq_true, not_true_eq_false, Nat.reduceAdd, Nat.reduceMul, List.getElem?_cons_zero, List.getElem?_cons_succ, List.getElem?_toArray, Bool.false_eq_true, List.map_cons, List.map_nil, List.append_nil, List.nil_append, List.cons_append, and_true, Nat.reduceLeDiff, Nat.le_refl, Bool.not_eq_eq_eq_not, Bool.not_true, ne_eq, decide_eq_false_iff_not, load_fpA T53 a53, s53, alloc_t T53, z53, fa_ptr T53 p53_0 (by decide), load_p1 T3 a3, loadc_def, fa_ptr T53 p53_2 (by decide), o_lookup, fa_ptr T53 p53_4 (by decide), load_p1 T48 a48, fa_ptr T53 p53_5 (by decide), load_p1 T4 a4, o_mapUpdate, build_struct T56 d56, z56, parts_eq, fillA, AV.cells, AH.splice, List.take_succ_cons, List.take_zero, List.drop_succ_cons, List.drop_zero, List.drop_nil, List.length_cons, List.length_nil, p56_0, p56_1, buildSl T50 d50 T56 (n := 1) (by rw [s56]; decide), s56, repl, build_struct T58 d58, z58, p58_0, alloc_t T58, run0_h, List.length_cons, List.length_nil, List.drop_zero, List.take_succ_cons, List.take_zero, Nat.zero_add, Nat.add_zero, e1, e2, e7, e9, e10, e12, d1, hlen, g1, g2, g3, y1, y3, c0, c3, eq_true c21, hlk, u1, u3, (show ¬ (255 : Int) = 0 by decide), k1, gB2, m1, gB3, p1, gB4, hlt, ct, callV_fn (g := 21) (by decide), st1]
              refine iterL_wp (Q := fun r => ∃ h', r = some (.bool true, h')) (N := now3.length) (Inv := fun k e h' => ∃ q dv v, k + q = now3.length ∧ L5 h4 h' a.cl (now3.take q) dv v ∧ q ≤ now3.length ∧ e 1 = VL ∧ e 2 = VT ∧ e 7 = .ptr 0 0 ∧ e 9 = nv2 ∧ e 10 = .mp 1 ∧ e 11 = wv ∧ e 12 = .int .i64 (i : Nat) ∧ e 13 = .ptr B0 0 ∧ e 15 = .ptr h4.next 0 ∧ e 16 = v ∧ e 17 = .int .i64 (q : Nat)) ?_ ?_ (by omega)
              · rintro k e h' K' ⟨q, dv, v, hk, hL, hql, e1, e2, e7, e9, e10, e11, e12, e13, e15, e16, e17⟩ hnext hexit
                have hbx := hL.bx
                have hgB := (hL.g.2 _ hB4).trans gBB
                have hnr := W3.n.grow hL.g
                have hln : ∀ h, aLen T 50 nv2 h = some (.int .i64 (now3.length : Nat)) := fun h => by rw [hn3]; exact W3.n.len T50 d50
                by_cases hq : q < now3.length
                · have dq : (q : Int) < (now3.length : Int) := by omega
                  obtain ⟨x5, hx5⟩ : ∃ x5, now3[q]? = some x5 := ⟨now3[q], List.getElem?_eq_getElem hq⟩
                  have htq : now3.take (q + 1) = now3.take q ++ [x5] := by rw [List.take_add_one, hx5]; rfl
                  obtain ⟨b5, cs5, bk5, j1, j2, j3, j4, j5, j6⟩ := loadPe hnr (by rw [← hn3]; exact hx5)
                  have j5' : cs5[q * 2 + 0]? = some (.int .i64 x5.c) := j5
                  have c9 : IntKind.i64.wrap ((q : Int) + 1) = ((q + 1 : Nat) : Int) := by rw [wrap_i64 (by omega) (by omega)]; rfl
                  by_cases hxc : x5.c = a.cl
                  · obtain ⟨dv2, hh2, hh3, s1', s2', s3', s4'⟩ := hL.hit hxc (by
                      have := dat_le a.cl now3 (q + 1)
                      rw [htq, (dat_hit hxc).1, List.length_append] at this
                      omega)
                    rw [← htq] at s4'
                    simp +contextual (maxSteps := 3000000) only [↓code_skip, ↓code_seq, ↓code_region, ↓code_cond, ↓code_block, aCond_bool, ↓ops_nil, ↓ops_cons, run_none, ↓run0_v, ↓run0_h, ↓run0_r, ↓seqK_normal, ↓blkK_normal, put_same, put_ne, put_none, ev_tmp, ev_const, oc_int, o_move, o_assign, o_bin, o_len, o_load, o_store, o_fieldAddr, o_indexAddr, o_append, g_none, bin_add, bin_eql, bin_lss, decide_eq_true_eq, ↓reduceIte, Nat.reduceEqDiff, not_false_eq_true, List.getElem?_cons_zero, List.getElem?_cons_succ, ne_eq, load_p1 T3 a3, loadc_def, fa_ptr T53 p53_2 (by decide), load_p1 T48 a48, fa_ptr T56 p56_0 (by decide), fa_ptr T58 p58_1 (by decide), fa_ptr T56 p56_1 (by decide), run0_h, Nat.zero_add, Nat.add_zero, e9, e13, e15, e17, dq, hln, hbx, hgB, j1, j2, j5, j6, eq_true hxc, s1', s3', c9]
                    refine hnext (k - 1) _ _ (by omega) ⟨q + 1, dv2, v, by omega, ?_, ?_, ?_, ?_, ?_, ?_, ?_, ?_, ?_, ?_, ?_, ?_, ?_⟩
                    · exact s4'
                    · omega
                    · simp only [put_ne, Nat.reduceEqDiff, not_false_eq_true, ne_eq, e1]
                    · simp only [put_ne, Nat.reduceEqDiff, not_false_eq_true, ne_eq, e2]
                    · simp only [put_ne, Nat.reduceEqDiff, not_false_eq_true, ne_eq, e7]
                    · simp only [put_ne, Nat.reduceEqDiff, not_false_eq_true, ne_eq, e9]
                    · simp only [put_ne, Nat.reduceEqDiff, not_false_eq_true, ne_eq, e10]
                    · simp only [put_ne, Nat.reduceEqDiff, not_false_eq_true, ne_eq, e11]
                    · simp only [put_ne, Nat.reduceEqDiff, not_false_eq_true, ne_eq, e12]
                    · simp only [put_ne, Nat.reduceEqDiff, not_false_eq_true, ne_eq, e13]
                    · simp only [put_ne, Nat.reduceEqDiff, not_false_eq_true, ne_eq, e15]
                    · simp only [put_ne, Nat.reduceEqDiff, not_false_eq_true, ne_eq, e16]
                    · simp only [put_same]
                  · obtain ⟨v2, hh2, s1', s4'⟩ := hL.miss hxc (by rw [List.length_take]; omega)
                    rw [← htq] at s4'
                    simp +contextual (maxSteps := 3000000) only [↓code_skip, ↓code_seq, ↓code_region, ↓code_cond, ↓code_block, aCond_bool, ↓ops_nil, ↓ops_cons, run_none, ↓run0_v, ↓run0_r, ↓seqK_normal, ↓blkK_normal, put_same, put_ne, ev_tmp, ev_const, oc_int, o_move, o_assign, o_bin, o_len, o_buildSlice, o_load, o_fieldAddr, o_indexAddr, o_append, g_none, bin_add, bin_eql, bin_lss, Option.bind_some, Option.map_some, decide_eq_true_eq, ↓reduceIte, Nat.reduceEqDiff, not_false_eq_true, Nat.reduceAdd, Nat.reduceMul, Nat.succ_ne_self, List.getElem?_cons_zero, List.getElem?_cons_succ, List.map_cons, List.map_nil, List.append_nil, List.nil_append, and_true, Nat.le_refl, ne_eq, loadn_def, load_p1 T3 a3, loadc_def, fa_ptr T53 p53_2 (by decide), z56, parts_eq, fillA, AV.cells, AH.splice, List.take_zero, List.drop_succ_cons, List.drop_nil, List.length_cons, List.length_nil, buildSl T50 d50 T56 (n := 1) (by rw [s56]; decide), s56, repl, fa_ptr T56 p56_0 (by decide), load_pA T56 a56, List.length_cons, List.length_nil, List.take_zero, Nat.zero_add, Nat.add_zero, e9, e13, e16, e17, dq, hln, hgB, j1, j2, j3, j4, j5, hxc, s1', c9]
                    refine hnext (k - 1) _ _ (by omega) ⟨q + 1, dv, v2, by omega, ?_, ?_, ?_, ?_, ?_, ?_, ?_, ?_, ?_, ?_, ?_, ?_, ?_⟩
                    · exact s4'
                    · omega
                    · simp only [put_ne, Nat.reduceEqDiff, not_false_eq_true, ne_eq, e1]
                    · simp only [put_ne, Nat.reduceEqDiff, not_false_eq_true, ne_eq, e2]
                    · simp only [put_ne, Nat.reduceEqDiff, not_false_eq_true, ne_eq, e7]
                    · simp only [put_ne, Nat.reduceEqDiff, not_false_eq_true, ne_eq, e9]
                    · simp only [put_ne, Nat.reduceEqDiff, not_false_eq_true, ne_eq, e10]
                    · simp only [put_ne, Nat.reduceEqDiff, not_false_eq_true, ne_eq, e11]
                    · simp only [put_ne, Nat.reduceEqDiff, not_false_eq_true, ne_eq, e12]
                    · simp only [put_ne, Nat.reduceEqDiff, not_false_eq_true, ne_eq, e13]
                    · simp only [put_ne, Nat.reduceEqDiff, not_false_eq_true, ne_eq, e15]
                    · simp only [put_same, put_ne, Nat.reduceEqDiff, not_false_eq_true, ne_eq]
                    · simp only [put_same]
                · have dq : ¬ (q : Int) < (now3.length : Int) := by omega
                  rw [List.take_of_length_le (by omega)] at hL
                  obtain ⟨h8, wv2, h9, f1, f2, f3, f4⟩ := W3.last (by rw [← hn3]; exact hL) (by have := congrArg List.length hK.js; rw [List.length_map] at this; have := hK.jl; omega)
                  rw [← hn3, hsq3, hnp3] at f4
                  obtain ⟨v', h6, sq2, now2, t1, t2, t3⟩ := tail5 h32 h14 h22 4739 0 1 (i + 1) V2 off2 _ v wv2 _ _ _ h9 f4 z3 z4 ⟨by omega, by omega⟩
                  simp +contextual (maxSteps := 3000000) only [↓code_seq, ↓code_region, ↓code_cond, ↓code_exit, aCond_bool, ↓ops_nil, ↓ops_cons, run_none, ↓run0_v, ↓seqK_normal, ↓seqK_exit, put_same, put_ne, ev_tmp, o_move, o_bin, o_len, g_none, bin_lss, decide_eq_true_eq, ↓reduceIte, Nat.reduceEqDiff, not_false_eq_true, ne_eq, e9, e17, dq, hln]
                  refine hexit _ _ _ (by simp) ?_
                  simp +contextual (maxSteps := 3000000) only [↓code_seq, ↓code_region, ↓ops_nil, ↓ops_cons, run_none, ↓run0_v, ↓run0_h, ↓run0_r, ↓seqK_normal, ↓blkK_normal, ↓blkK_exit, put_same, put_ne, put_none, ev_tmp, ev_const, ev_func, oc_int, o_move, o_assign, o_bin, o_call, o_buildSlice, o_load, o_fieldAddr, o_append, g_none, bin_add, Option.bind_some, Option.map_some, ↓reduceIte, Nat.reduceEqDiff, not_false_eq_true, Nat.reduceAdd, Nat.reduceMul, Nat.succ_ne_self, List.getElem?_cons_zero, List.getElem?_cons_succ, List.map_cons, List.map_nil, List.append_nil, List.nil_append, and_true, Nat.le_refl, ne_eq, loadn_def, load_p1 T3 a3, loadc_def, fa_ptr T53 p53_2 (by decide), o_mapUpdate, parts_eq, fillA, AV.cells, AH.splice, List.take_succ_cons, List.take_zero, List.take_nil, List.drop_succ_cons, List.drop_zero, List.drop_nil, List.length_cons, List.length_nil, repl, z58, run0_h, load_pA T58 a58, s58, buildSl T51 d51 T58 (n := 1) (by rw [s58]; decide), List.length_cons, List.length_nil, List.drop_zero, List.take_succ_cons, List.take_zero, List.take_nil, Nat.zero_add, e7, e10, e11, e12, e13, e15, e16, hgB, f1, f2, f3, t1, c7, callV_fn (g := 22) (by decide)]
                  refine hnext0 (k0 - 1) _ _ (by omega) ⟨i + 1, off2, V2, sq2, v', now2, wv2, _, by omega, t2, ?_, by omega, ?_, ?_, ?_, ?_, ?_, ?_, ?_⟩
                  · rw [List.map_append]; exact t3
                  · simp only [put_ne, Nat.reduceEqDiff, not_false_eq_true, ne_eq, e1]
                  · simp only [put_ne, Nat.reduceEqDiff, not_false_eq_true, ne_eq, e2]
                  · simp only [put_ne, Nat.reduceEqDiff, not_false_eq_true, ne_eq, e7]
                  · simp only [put_same, put_ne, Nat.reduceEqDiff, not_false_eq_true, ne_eq]
                  · simp only [put_ne, Nat.reduceEqDiff, not_false_eq_true, Nat.succ_ne_self, ne_eq, e10]
                  · simp only [put_same, put_ne, Nat.reduceEqDiff, not_false_eq_true, ne_eq]
                  · simp only [put_same]
              · refine ⟨0, .nils, .nils, by omega, ?_, ?_, ?_, ?_, ?_, ?_, ?_, ?_, ?_, ?_, ?_, ?_, ?_⟩
                · exact L50
                · omega
                · simp only [put_ne, Nat.reduceEqDiff, not_false_eq_true, ne_eq, e1]
                · simp only [put_ne, Nat.reduceEqDiff, not_false_eq_true, ne_eq, e2]
                · simp only [put_ne, Nat.reduceEqDiff, not_false_eq_true, ne_eq, e7]
                · simp only [put_same, put_ne, Nat.reduceEqDiff, not_false_eq_true, ne_eq]
                · simp only [put_ne, Nat.reduceEqDiff, not_false_eq_true, Nat.succ_ne_self, ne_eq, e10]
                · simp only [put_ne, Nat.reduceEqDiff, not_false_eq_true, ne_eq, e11]
                · simp only [put_ne, Nat.reduceEqDiff, not_false_eq_true, ne_eq, e12]
                · simp only [put_same, put_ne, Nat.reduceEqDiff, not_false_eq_true, ne_eq]; rw [hB0]
                · simp only [put_same, put_ne, Nat.reduceEqDiff, not_false_eq_true, ne_eq]
                · simp only [put_same, put_ne, Nat.reduceEqDiff, not_false_eq_true, ne_eq]
                · simp only [put_same]; rfl
            · have c21 : ¬ a.dd = 2 := by omega
              simp +contextual (maxSteps := 3000000) only [↓code_skip, ↓code_seq, ↓code_region, ↓code_cond, ↓code_block, ↓code_loop, aCond_bool, ↓ops_nil, ↓ops_cons, run_none, run_someT, ↓run0_v, ↓run0_h, ↓run0_r, ↓seqK_normal, put_same, put_ne, put_none, ev_tmp, ev_const, ev_func, oc_int, oc_bool, oc_nils, o_move, o_assign, o_pick, o_bin, o_call, o_len, o_alloc, o_build, o_buildSlice, o_load, o_store, o_un, o_fieldAddr, o_indexAddr, o_append, g_none, g_some, pick_bool, bin_add, bin_rem, bin_eql, bin_neq, bin_lss, Option.bind_some, Option.map_some, decide_eq_true_eq, ↓reduceIte, Nat.reduceEqDiff, not_false_eq_true, not_true_eq_false, Nat.reduceAdd, Nat.reduceMul, List.getElem?_cons_zero, List.getElem?_cons_succ, List.getElem?_toArray, Bool.false_eq_true, List.map_cons, List.map_nil, List.append_nil, List.nil_append, List.cons_append, and_true, Nat.reduceLeDiff, Nat.le_refl, Bool.not_eq_eq_eq_not, Bool.not_true, ne_eq, decide_eq_false_iff_not, load_fpA T53 a53, s53, alloc_t T53, z53, fa_ptr T53 p53_0 (by decide), load_p1 T3 a3, loadc_def, fa_ptr T53 p53_2 (by decide), o_lookup, fa_ptr T53 p53_4 (by decide), load_p1 T48 a48, fa_ptr T53 p53_5 (by decide), load_p1 T4 a4, o_mapUpdate, build_struct T56 d56, z56, parts_eq, fillA, AV.cells, AH.splice, List.take_succ_cons, List.take_zero, List.drop_succ_cons, List.drop_zero, List.drop_nil, List.length_cons, List.length_nil, p56_0, p56_1, buildSl T50 d50 T56 (n := 1) (by rw [s56]; decide), s56, repl, build_struct T58 d58, z58, p58_0, alloc_t T58, run0_h, List.length_cons, List.length_nil, List.drop_zero, List.take_succ_cons, List.take_zero, Nat.zero_add, Nat.add_zero, e1, e2, e7, e9, e10, e12, d1, hlen, g1, g2, g3, y1, y3, c0, c3, c21, eq_true c51, hlk, u1, u3, (show ¬ (255 : Int) = 0 by decide), k1, gB2, m1, gB3, p1, gB4, hlt, ct, callV_fn (g := 21) (by decide), st1]
              refine iterL_wp (Q := fun r => ∃ h', r = some (.bool true, h')) (N := now3.length) (Inv := fun k e h' => ∃ q dv v, k + q = now3.length ∧ L5 h4 h' a.cl (now3.take q) dv v ∧ q ≤ now3.length ∧ e 1 = VL ∧ e 2 = VT ∧ e 7 = .ptr 0 0 ∧ e 9 = nv2 ∧ e 10 = .mp 1 ∧ e 11 = wv ∧ e 12 = .int .i64 (i : Nat) ∧ e 13 = .ptr B0 0 ∧ e 15 = .ptr h4.next 0 ∧ e 16 = v ∧ e 17 = .int .i64 (q : Nat)) ?_ ?_ (by omega)
              · rintro k e h' K' ⟨q, dv, v, hk, hL, hql, e1, e2, e7, e9, e10, e11, e12, e13, e15, e16, e17⟩ hnext hexit
                have hbx := hL.bx
                have hgB := (hL.g.2 _ hB4).trans gBB
                have hnr := W3.n.grow hL.g
                have hln : ∀ h, aLen T 50 nv2 h = some (.int .i64 (now3.length : Nat)) := fun h => by rw [hn3]; exact W3.n.len T50 d50
                by_cases hq : q < now3.length
                · have dq : (q : Int) < (now3.length : Int) := by omega
                  obtain ⟨x5, hx5⟩ : ∃ x5, now3[q]? = some x5 := ⟨now3[q], List.getElem?_eq_getElem hq⟩
                  have htq : now3.take (q + 1) = now3.take q ++ [x5] := by rw [List.take_add_one, hx5]; rfl
                  obtain ⟨b5, cs5, bk5, j1, j2, j3, j4, j5, j6⟩ := loadPe hnr (by rw [← hn3]; exact hx5)
                  have j5' : cs5[q * 2 + 0]? = some (.int .i64 x5.c) := j5
                  have c9 : IntKind.i64.wrap ((q : Int) + 1) = ((q + 1 : Nat) : Int) := by rw [wrap_i64 (by omega) (by omega)]; rfl
                  by_cases hxc : x5.c = a.cl
                  · obtain ⟨dv2, hh2, hh3, s1', s2', s3', s4'⟩ := hL.hit hxc (by
                      have := dat_le a.cl now3 (q + 1)
                      rw [htq, (dat_hit hxc).1, List.length_append] at this
                      omega)
                    rw [← htq] at s4'
                    simp +contextual (maxSteps := 3000000) only [↓code_skip, ↓code_seq, ↓code_region, ↓code_cond, ↓code_block, aCond_bool, ↓ops_nil, ↓ops_cons, run_none, ↓run0_v, ↓run0_h, ↓run0_r, ↓seqK_normal, ↓blkK_normal, put_same, put_ne, put_none, ev_tmp, ev_const, oc_int, o_move, o_assign, o_bin, o_len, o_load, o_store, o_fieldAddr, o_indexAddr, o_append, g_none, bin_add, bin_eql, bin_lss, decide_eq_true_eq, ↓reduceIte, Nat.reduceEqDiff, not_false_eq_true, List.getElem?_cons_zero, List.getElem?_cons_succ, ne_eq, load_p1 T3 a3, loadc_def, fa_ptr T53 p53_2 (by decide), load_p1 T48 a48, fa_ptr T56 p56_0 (by decide), fa_ptr T58 p58_1 (by decide), fa_ptr T56 p56_1 (by decide), run0_h, Nat.zero_add, Nat.add_zero, e9, e13, e15, e17, dq, hln, hbx, hgB, j1, j2, j5, j6, eq_true hxc, s1', s3', c9]
                    refine hnext (k - 1) _ _ (by omega) ⟨q + 1, dv2, v, by omega, ?_, ?_, ?_, ?_, ?_, ?_, ?_, ?_, ?_, ?_, ?_, ?_, ?_⟩
                    · exact s4'
                    · omega
                    · simp only [put_ne, Nat.reduceEqDiff, not_false_eq_true, ne_eq, e1]
                    · simp only [put_ne, Nat.reduceEqDiff, not_false_eq_true, ne_eq, e2]
                    · simp only [put_ne, Nat.reduceEqDiff, not_false_eq_true, ne_eq, e7]
                    · simp only [put_ne, Nat.reduceEqDiff, not_false_eq_true, ne_eq, e9]
                    · simp only [put_ne, Nat.reduceEqDiff, not_false_eq_true, ne_eq, e10]
                    · simp only [put_ne, Nat.reduceEqDiff, not_false_eq_true, ne_eq, e11]
                    · simp only [put_ne, Nat.reduceEqDiff, not_false_eq_true, ne_eq, e12]
                    · simp only [put_ne, Nat.reduceEqDiff, not_false_eq_true, ne_eq, e13]
                    · simp only [put_ne, Nat.reduceEqDiff, not_false_eq_true, ne_eq, e15]
                    · simp only [put_ne, Nat.reduceEqDiff, not_false_eq_true, ne_eq, e16]
                    · simp only [put_same]
                  · obtain ⟨v2, hh2, s1', s4'⟩ := hL.miss hxc (by rw [List.length_take]; omega)
                    rw [← htq] at s4'
                    simp +contextual (maxSteps := 3000000) only [↓code_skip, ↓code_seq, ↓code_region, ↓code_cond, ↓code_block, aCond_bool, ↓ops_nil, ↓ops_cons, run_none, ↓run0_v, ↓run0_r, ↓seqK_normal, ↓blkK_normal, put_same, put_ne, ev_tmp, ev_const, oc_int, o_move, o_assign, o_bin, o_len, o_buildSlice, o_load, o_fieldAddr, o_indexAddr, o_append, g_none, bin_add, bin_eql, bin_lss, Option.bind_some, Option.map_some, decide_eq_true_eq, ↓reduceIte, Nat.reduceEqDiff, not_false_eq_true, Nat.reduceAdd, Nat.reduceMul, Nat.succ_ne_self, List.getElem?_cons_zero, List.getElem?_cons_succ, List.map_cons, List.map_nil, List.append_nil, List.nil_append, and_true, Nat.le_refl, ne_eq, loadn_def, load_p1 T3 a3, loadc_def, fa_ptr T53 p53_2 (by decide), z56, parts_eq, fillA, AV.cells, AH.splice, List.take_zero, List.drop_succ_cons, List.drop_nil, List.length_cons, List.length_nil, buildSl T50 d50 T56 (n := 1) (by rw [s56]; decide), s56, repl, fa_ptr T56 p56_0 (by decide), load_pA T56 a56, List.length_cons, List.length_nil, List.take_zero, Nat.zero_add, Nat.add_zero, e9, e13, e16, e17, dq, hln, hgB, j1, j2, j3, j4, j5, hxc, s1', c9]
                    refine hnext (k - 1) _ _ (by omega) ⟨q + 1, dv, v2, by omega, ?_, ?_, ?_, ?_, ?_, ?_, ?_, ?_, ?_, ?_, ?_, ?_, ?_⟩
                    · exact s4'
                    · omega
                    · simp only [put_ne, Nat.reduceEqDiff, not_false_eq_true, ne_eq, e1]
                    · simp only [put_ne, Nat.reduceEqDiff, not_false_eq_true, ne_eq, e2]
                    · simp only [put_ne, Nat.reduceEqDiff, not_false_eq_true, ne_eq, e7]
                    · simp only [put_ne, Nat.reduceEqDiff, not_false_eq_true, ne_eq, e9]
                    · simp only [put_ne, Nat.reduceEqDiff, not_false_eq_true, ne_eq, e10]
                    · simp only [put_ne, Nat.reduceEqDiff, not_false_eq_true, ne_eq, e11]
                    · simp only [put_ne, Nat.reduceEqDiff, not_false_eq_true, ne_eq, e12]
                    · simp only [put_ne, Nat.reduceEqDiff, not_false_eq_true, ne_eq, e13]
                    · simp only [put_ne, Nat.reduceEqDiff, not_false_eq_true, ne_eq, e15]
                    · simp only [put_same, put_ne, Nat.reduceEqDiff, not_false_eq_true, ne_eq]
                    · simp only [put_same]
                · have dq : ¬ (q : Int) < (now3.length : Int) := by omega
                  rw [List.take_of_length_le (by omega)] at hL
                  obtain ⟨h8, wv2, h9, f1, f2, f3, f4⟩ := W3.last (by rw [← hn3]; exact hL) (by have := congrArg List.length hK.js; rw [List.length_map] at this; have := hK.jl; omega)
                  rw [← hn3, hsq3, hnp3] at f4
                  obtain ⟨v', h6, sq2, now2, t1, t2, t3⟩ := tail5 h32 h14 h22 4739 0 1 (i + 1) V2 off2 _ v wv2 _ _ _ h9 f4 z3 z4 ⟨by omega, by omega⟩
                  simp +contextual (maxSteps := 3000000) only [↓code_seq, ↓code_region, ↓code_cond, ↓code_exit, aCond_bool, ↓ops_nil, ↓ops_cons, run_none, ↓run0_v, ↓seqK_normal, ↓seqK_exit, put_same, put_ne, ev_tmp, o_move, o_bin, o_len, g_none, bin_lss, decide_eq_true_eq, ↓reduceIte, Nat.reduceEqDiff, not_false_eq_true, ne_eq, e9, e17, dq, hln]
                  refine hexit _ _ _ (by simp) ?_
                  simp +contextual (maxSteps := 3000000) only [↓code_seq, ↓code_region, ↓ops_nil, ↓ops_cons, run_none, ↓run0_v, ↓run0_h, ↓run0_r, ↓seqK_normal, ↓blkK_normal, ↓blkK_exit, put_same, put_ne, put_none, ev_tmp, ev_const, ev_func, oc_int, o_move, o_assign, o_bin, o_call, o_buildSlice, o_load, o_fieldAddr, o_append, g_none, bin_add, Option.bind_some, Option.map_some, ↓reduceIte, Nat.reduceEqDiff, not_false_eq_true, Nat.reduceAdd, Nat.reduceMul, Nat.succ_ne_self, List.getElem?_cons_zero, List.getElem?_cons_succ, List.map_cons, List.map_nil, List.append_nil, List.nil_append, and_true, Nat.le_refl, ne_eq, loadn_def, load_p1 T3 a3, loadc_def, fa_ptr T53 p53_2 (by decide), o_mapUpdate, parts_eq, fillA, AV.cells, AH.splice, List.take_succ_cons, List.take_zero, List.take_nil, List.drop_succ_cons, List.drop_zero, List.drop_nil, List.length_cons, List.length_nil, repl, z58, run0_h, load_pA T58 a58, s58, buildSl T51 d51 T58 (n := 1) (by rw [s58]; decide), List.length_cons, List.length_nil, List.drop_zero, List.take_succ_cons, List.take_zero, List.take_nil, Nat.zero_add, e7, e10, e11, e12, e13, e15, e16, hgB, f1, f2, f3, t1, c7, callV_fn (g := 22) (by decide)]
                  refine hnext0 (k0 - 1) _ _ (by omega) ⟨i + 1, off2, V2, sq2, v', now2, wv2, _, by omega, t2, ?_, by omega, ?_, ?_, ?_, ?_, ?_, ?_, ?_⟩
                  · rw [List.map_append]; exact t3
                  · simp only [put_ne, Nat.reduceEqDiff, not_false_eq_true, ne_eq, e1]
                  · simp only [put_ne, Nat.reduceEqDiff, not_false_eq_true, ne_eq, e2]
                  · simp only [put_ne, Nat.reduceEqDiff, not_false_eq_true, ne_eq, e7]
                  · simp only [put_same, put_ne, Nat.reduceEqDiff, not_false_eq_true, ne_eq]
                  · simp only [put_ne, Nat.reduceEqDiff, not_false_eq_true, Nat.succ_ne_self, ne_eq, e10]
                  · simp only [put_same, put_ne, Nat.reduceEqDiff, not_false_eq_true, ne_eq]
                  · simp only [put_same]
              · refine ⟨0, .nils, .nils, by omega, ?_, ?_, ?_, ?_, ?_, ?_, ?_, ?_, ?_, ?_, ?_, ?_, ?_⟩
                · exact L50
                · omega
                · simp only [put_ne, Nat.reduceEqDiff, not_false_eq_true, ne_eq, e1]
                · simp only [put_ne, Nat.reduceEqDiff, not_false_eq_true, ne_eq, e2]
                · simp only [put_ne, Nat.reduceEqDiff, not_false_eq_true, ne_eq, e7]
                · simp only [put_same, put_ne, Nat.reduceEqDiff, not_false_eq_true, ne_eq]
                · simp only [put_ne, Nat.reduceEqDiff, not_false_eq_true, Nat.succ_ne_self, ne_eq, e10]
                · simp only [put_ne, Nat.reduceEqDiff, not_false_eq_true, ne_eq, e11]
                · simp only [put_ne, Nat.reduceEqDiff, not_false_eq_true, ne_eq, e12]
                · simp only [put_same, put_ne, Nat.reduceEqDiff, not_false_eq_true, ne_eq]; rw [hB0]
                · simp only [put_same, put_ne, Nat.reduceEqDiff, not_false_eq_true, ne_eq]
                · simp only [put_same, put_ne, Nat.reduceEqDiff, not_false_eq_true, ne_eq]
                · simp only [put_same]; rfl
          · obtain ⟨x, hx⟩ : ∃ x, tw[i]? = some x := ⟨tw[i]'(by omega), List.getElem?_eq_getElem (by omega)⟩
            have hxb := htw x (List.mem_of_getElem? hx)
            have hia2 : aIndexAddr T 48 VT (.int .i64 (i : Nat)) = some (.fp (.int .u8 x :: (bytes tw).drop (i + 1))) := by
              rw [hVT, ia_lst T48 d48 T5 s5, if_pos ⟨by omega, by omega⟩]
              simp only [Int.toNat_natCast, Nat.mul_one, Option.some.injEq, AV.fp.injEq]
              rw [List.drop_eq_getElem_cons (by simp [bytes]; omega)]
              simp [bytes, (List.getElem?_eq_some_iff.1 hx).2]
            have v1 : x.tmod 2 = x % 2 := Int.tmod_eq_emod_of_nonneg hxb.1
            have v2 : IntKind.u8.wrap (x % 2) = x % 2 := wrap_u8 (by omega) (by omega)
            by_cases co : x % 2 = 1
            · rcases c5 with c21 | c51
              · simp +contextual (maxSteps := 3000000) only [↓code_skip, ↓code_seq, ↓code_region, ↓code_cond, ↓code_block, ↓code_loop, aCond_bool, ↓ops_nil, ↓ops_cons, run_none, run_someT, ↓run0_v, ↓run0_h, ↓run0_r, ↓seqK_normal, put_same, put_ne, put_none, ev_tmp, ev_const, ev_func, oc_int, oc_bool, oc_nils, o_move, o_assign, o_pick, o_bin, o_call, o_len, o_alloc, o_build, o_buildSlice, o_load, o_store, o_un, o_fieldAddr, o_indexAddr, o_append, g_none, g_some, pick_bool, bin_add, bin_rem, bin_eql, bin_neq, bin_lss, un_not, Option.bind_some, Option.map_some, decide_eq_true_eq, ↓reduceIte, Nat.reduceEqDiff, not_false_eq_true, not_true_eq_false, Nat.reduceAdd, Nat.reduceMul, List.getElem?_cons_zero, List.getElem?_cons_succ, List.getElem?_toArray, Bool.false_eq_true, List.map_cons, List.map_nil, List.append_nil, List.nil_append, List.cons_append, and_true, Nat.reduceLeDiff, Nat.le_refl, Bool.not_eq_eq_eq_not, Bool.not_true, ne_eq, decide_eq_false_iff_not, load_fpA T53 a53, s53, alloc_t T53, z53, fa_ptr T53 p53_0 (by decide), load_p1 T3 a3, loadc_def, fa_ptr T53 p53_2 (by decide), o_lookup, fa_ptr T53 p53_4 (by decide), load_p1 T48 a48, fa_ptr T53 p53_5 (by decide), load_p1 T4 a4, o_mapUpdate, build_struct T56 d56, z56, parts_eq, fillA, AV.cells, AH.splice, List.take_succ_cons, List.take_zero, List.drop_succ_cons, List.drop_zero, List.drop_nil, List.length_cons, List.length_nil, p56_0, p56_1, buildSl T50 d50 T56 (n := 1) (by rw [s56]; decide), s56, repl, load_fp1 T5 a5, build_struct T58 d58, z58, p58_0, alloc_t T58, run0_h, List.length_cons, List.length_nil, List.drop_zero, List.take_succ_cons, List.take_zero, Nat.zero_add, Nat.add_zero, e1, e2, e7, e9, e10, e12, d1, hlen, g1, g2, g3, y1, y3, c0, c3, eq_true c21, hlk, u1, u3, (show ¬ (255 : Int) = 0 by decide), (show ¬ (2 : Int) = 0 by decide), k1, gB2, m1, gB3, p1, gB4, hlt, ct, hia2, v1, co, callV_fn (g := 21) (by decide), st1]
                refine iterL_wp (Q := fun r => ∃ h', r = some (.bool true, h')) (N := now3.length) (Inv := fun k e h' => ∃ q dv v, k + q = now3.length ∧ L5 h4 h' a.cl (now3.take q) dv v ∧ q ≤ now3.length ∧ e 1 = VL ∧ e 2 = VT ∧ e 7 = .ptr 0 0 ∧ e 9 = nv2 ∧ e 10 = .mp 1 ∧ e 11 = wv ∧ e 12 = .int .i64 (i : Nat) ∧ e 13 = .ptr B0 0 ∧ e 15 = .ptr h4.next 0 ∧ e 16 = v ∧ e 17 = .int .i64 (q : Nat)) ?_ ?_ (by omega)
                · rintro k e h' K' ⟨q, dv, v, hk, hL, hql, e1, e2, e7, e9, e10, e11, e12, e13, e15, e16, e17⟩ hnext hexit
                  have hbx := hL.bx
                  have hgB := (hL.g.2 _ hB4).trans gBB
                  have hnr := W3.n.grow hL.g
                  have hln : ∀ h, aLen T 50 nv2 h = some (.int .i64 (now3.length : Nat)) := fun h => by rw [hn3]; exact W3.n.len T50 d50
                  by_cases hq : q < now3.length
                  · have dq : (q : Int) < (now3.length : Int) := by omega
                    obtain ⟨x5, hx5⟩ : ∃ x5, now3[q]? = some x5 := ⟨now3[q], List.getElem?_eq_getElem hq⟩
                    have htq : now3.take (q + 1) = now3.take q ++ [x5] := by rw [List.take_add_one, hx5]; rfl
                    obtain ⟨b5, cs5, bk5, j1, j2, j3, j4, j5, j6⟩ := loadPe hnr (by rw [← hn3]; exact hx5)
                    have j5' : cs5[q * 2 + 0]? = some (.int .i64 x5.c) := j5
                    have c9 : IntKind.i64.wrap ((q : Int) + 1) = ((q + 1 : Nat) : Int) := by rw [wrap_i64 (by omega) (by omega)]; rfl
                    by_cases hxc : x5.c = a.cl
                    · obtain ⟨dv2, hh2, hh3, s1', s2', s3', s4'⟩ := hL.hit hxc (by
                        have := dat_le a.cl now3 (q + 1)
                        rw [htq, (dat_hit hxc).1, List.length_append] at this
                        omega)
                      rw [← htq] at s4'
                      simp +contextual (maxSteps := 3000000) only [↓code_skip, ↓code_seq, ↓code_region, ↓code_cond, ↓code_block, aCond_bool, ↓ops_nil, ↓ops_cons, run_none, ↓run0_v, ↓run0_h, ↓run0_r, ↓seqK_normal, ↓blkK_normal, put_same, put_ne, put_none, ev_tmp, ev_const, oc_int, o_move, o_assign, o_bin, o_len, o_load, o_store, o_fieldAddr, o_indexAddr, o_append, g_none, bin_add, bin_eql, bin_lss, decide_eq_true_eq, ↓reduceIte, Nat.reduceEqDiff, not_false_eq_true, List.getElem?_cons_zero, List.getElem?_cons_succ, ne_eq, load_p1 T3 a3, loadc_def, fa_ptr T53 p53_2 (by decide), load_p1 T48 a48, fa_ptr T56 p56_0 (by decide), fa_ptr T58 p58_1 (by decide), fa_ptr T56 p56_1 (by decide), run0_h, Nat.zero_add, Nat.add_zero, e9, e13, e15, e17, dq, hln, hbx, hgB, j1, j2, j5, j6, eq_true hxc, s1', s3', c9]
                      refine hnext (k - 1) _ _ (by omega) ⟨q + 1, dv2, v, by omega, ?_, ?_, ?_, ?_, ?_, ?_, ?_, ?_, ?_, ?_, ?_, ?_, ?_⟩
                      · exact s4'
                      · omega
                      · simp only [put_ne, Nat.reduceEqDiff, not_false_eq_true, ne_eq, e1]
                      · simp only [put_ne, Nat.reduceEqDiff, not_false_eq_true, ne_eq, e2]
                      · simp only [put_ne, Nat.reduceEqDiff, not_false_eq_true, ne_eq, e7]
                      · simp only [put_ne, Nat.reduceEqDiff, not_false_eq_true, ne_eq, e9]
                      · simp only [put_ne, Nat.reduceEqDiff, not_false_eq_true, ne_eq, e10]
                      · simp only [put_ne, Nat.reduceEqDiff, not_false_eq_true, ne_eq, e11]
                      · simp only [put_ne, Nat.reduceEqDiff, not_false_eq_true, ne_eq, e12]
                      · simp only [put_ne, Nat.reduceEqDiff, not_false_eq_true, ne_eq, e13]
                      · simp only [put_ne, Nat.reduceEqDiff, not_false_eq_true, ne_eq, e15]
                      · simp only [put_ne, Nat.reduceEqDiff, not_false_eq_true, ne_eq, e16]
                      · simp only [put_same]
                    · obtain ⟨v2, hh2, s1', s4'⟩ := hL.miss hxc (by rw [List.length_take]; omega)
                      rw [← htq] at s4'
                      simp +contextual (maxSteps := 3000000) only [↓code_skip, ↓code_seq, ↓code_region, ↓code_cond, ↓code_block, aCond_bool, ↓ops_nil, ↓ops_cons, run_none, ↓run0_v, ↓run0_r, ↓seqK_normal, ↓blkK_normal, put_same, put_ne, ev_tmp, ev_const, oc_int, o_move, o_assign, o_bin, o_len, o_buildSlice, o_load, o_fieldAddr, o_indexAddr, o_append, g_none, bin_add, bin_eql, bin_lss, Option.bind_some, Option.map_some, decide_eq_true_eq, ↓reduceIte, Nat.reduceEqDiff, not_false_eq_true, Nat.reduceAdd, Nat.reduceMul, Nat.succ_ne_self, List.getElem?_cons_zero, List.getElem?_cons_succ, List.map_cons, List.map_nil, List.append_nil, List.nil_append, and_true, Nat.le_refl, ne_eq, loadn_def, load_p1 T3 a3, loadc_def, fa_ptr T53 p53_2 (by decide), z56, parts_eq, fillA, AV.cells, AH.splice, List.take_zero, List.drop_succ_cons, List.drop_nil, List.length_cons, List.length_nil, buildSl T50 d50 T56 (n := 1) (by rw [s56]; decide), s56, repl, fa_ptr T56 p56_0 (by decide), load_pA T56 a56, List.length_cons, List.length_nil, List.take_zero, Nat.zero_add, Nat.add_zero, e9, e13, e16, e17, dq, hln, hgB, j1, j2, j3, j4, j5, hxc, s1', c9]
                      refine hnext (k - 1) _ _ (by omega) ⟨q + 1, dv, v2, by omega, ?_, ?_, ?_, ?_, ?_, ?_, ?_, ?_, ?_, ?_, ?_, ?_, ?_⟩
                      · exact s4'
                      · omega
                      · simp only [put_ne, Nat.reduceEqDiff, not_false_eq_true, ne_eq, e1]
                      · simp only [put_ne, Nat.reduceEqDiff, not_false_eq_true, ne_eq, e2]
                      · simp only [put_ne, Nat.reduceEqDiff, not_false_eq_true, ne_eq, e7]
                      · simp only [put_ne, Nat.reduceEqDiff, not_false_eq_true, ne_eq, e9]
                      · simp only [put_ne, Nat.reduceEqDiff, not_false_eq_true, ne_eq, e10]
                      · simp only [put_ne, Nat.reduceEqDiff, not_false_eq_true, ne_eq, e11]
                      · simp only [put_ne, Nat.reduceEqDiff, not_false_eq_true, ne_eq, e12]
                      · simp only [put_ne, Nat.reduceEqDiff, not_false_eq_true, ne_eq, e13]
                      · simp only [put_ne, Nat.reduceEqDiff, not_false_eq_true, ne_eq, e15]
                      · simp only [put_same, put_ne, Nat.reduceEqDiff, not_false_eq_true, ne_eq]
                      · simp only [put_same]
                  · have dq : ¬ (q : Int) < (now3.length : Int) := by omega
                    rw [List.take_of_length_le (by omega)] at hL
                    obtain ⟨h8, wv2, h9, f1, f2, f3, f4⟩ := W3.last (by rw [← hn3]; exact hL) (by have := congrArg List.length hK.js; rw [List.length_map] at this; have := hK.jl; omega)
                    rw [← hn3, hsq3, hnp3] at f4
                    obtain ⟨v', h6, sq2, now2, t1, t2, t3⟩ := tail5 h32 h14 h22 4739 0 1 (i + 1) V2 off2 _ v wv2 _ _ _ h9 f4 z3 z4 ⟨by omega, by omega⟩
                    simp +contextual (maxSteps := 3000000) only [↓code_seq, ↓code_region, ↓code_cond, ↓code_exit, aCond_bool, ↓ops_nil, ↓ops_cons, run_none, ↓run0_v, ↓seqK_normal, ↓seqK_exit, put_same, put_ne, ev_tmp, o_move, o_bin, o_len, g_none, bin_lss, decide_eq_true_eq, ↓reduceIte, Nat.reduceEqDiff, not_false_eq_true, ne_eq, e9, e17, dq, hln]
                    refine hexit _ _ _ (by simp) ?_
                    simp +contextual (maxSteps := 3000000) only [↓code_seq, ↓code_region, ↓ops_nil, ↓ops_cons, run_none, ↓run0_v, ↓run0_h, ↓run0_r, ↓seqK_normal, ↓blkK_normal, ↓blkK_exit, put_same, put_ne, put_none, ev_tmp, ev_const, ev_func, oc_int, o_move, o_assign, o_bin, o_call, o_buildSlice, o_load, o_fieldAddr, o_append, g_none, bin_add, Option.bind_some, Option.map_some, ↓reduceIte, Nat.reduceEqDiff, not_false_eq_true, Nat.reduceAdd, Nat.reduceMul, Nat.succ_ne_self, List.getElem?_cons_zero, List.getElem?_cons_succ, List.map_cons, List.map_nil, List.append_nil, List.nil_append, and_true, Nat.le_refl, ne_eq, loadn_def, load_p1 T3 a3, loadc_def, fa_ptr T53 p53_2 (by decide), o_mapUpdate, parts_eq, fillA, AV.cells, AH.splice, List.take_succ_cons, List.take_zero, List.take_nil, List.drop_succ_cons, List.drop_zero, List.drop_nil, List.length_cons, List.length_nil, repl, z58, run0_h, load_pA T58 a58, s58, buildSl T51 d51 T58 (n := 1) (by rw [s58]; decide), List.length_cons, List.length_nil, List.drop_zero, List.take_succ_cons, List.take_zero, List.take_nil, Nat.zero_add, e7, e10, e11, e12, e13, e15, e16, hgB, f1, f2, f3, t1, c7, callV_fn (g := 22) (by decide)]
                    refine hnext0 (k0 - 1) _ _ (by omega) ⟨i + 1, off2, V2, sq2, v', now2, wv2, _, by omega, t2, ?_, by omega, ?_, ?_, ?_, ?_, ?_, ?_, ?_⟩
                    · rw [List.map_append]; exact t3
                    · simp only [put_ne, Nat.reduceEqDiff, not_false_eq_true, ne_eq, e1]
                    · simp only [put_ne, Nat.reduceEqDiff, not_false_eq_true, ne_eq, e2]
                    · simp only [put_ne, Nat.reduceEqDiff, not_false_eq_true, ne_eq, e7]
                    · simp only [put_same, put_ne, Nat.reduceEqDiff, not_false_eq_true, ne_eq]
                    · simp only [put_ne, Nat.reduceEqDiff, not_false_eq_true, Nat.succ_ne_self, ne_eq, e10]
                    · simp only [put_same, put_ne, Nat.reduceEqDiff, not_false_eq_true, ne_eq]
                    · simp only [put_same]
                · refine ⟨0, .nils, .nils, by omega, ?_, ?_, ?_, ?_, ?_, ?_, ?_, ?_, ?_, ?_, ?_, ?_, ?_⟩
                  · exact L50
                  · omega
                  · simp only [put_ne, Nat.reduceEqDiff, not_false_eq_true, ne_eq, e1]
                  · simp only [put_ne, Nat.reduceEqDiff, not_false_eq_true, ne_eq, e2]
                  · simp only [put_ne, Nat.reduceEqDiff, not_false_eq_true, ne_eq, e7]
                  · simp only [put_same, put_ne, Nat.reduceEqDiff, not_false_eq_true, ne_eq]
                  · simp only [put_ne, Nat.reduceEqDiff, not_false_eq_true, Nat.succ_ne_self, ne_eq, e10]
                  · simp only [put_ne, Nat.reduceEqDiff, not_false_eq_true, ne_eq, e11]
                  · simp only [put_ne, Nat.reduceEqDiff, not_false_eq_true, ne_eq, e12]
                  · simp only [put_same, put_ne, Nat.reduceEqDiff, not_false_eq_true, ne_eq]; rw [hB0]
                  · simp only [put_same, put_ne, Nat.reduceEqDiff, not_false_eq_true, ne_eq]
                  · simp only [put_same, put_ne, Nat.reduceEqDiff, not_false_eq_true, ne_eq]
                  · simp only [put_same]; rfl
              · have c21 : ¬ a.dd = 2 := by omega
                simp +contextual (maxSteps := 3000000) only [↓code_skip, ↓code_seq, ↓code_region, ↓code_cond, ↓code_block, ↓code_loop, aCond_bool, ↓ops_nil, ↓ops_cons, run_none, run_someT, ↓run0_v, ↓run0_h, ↓run0_r, ↓seqK_normal, put_same, put_ne, put_none, ev_tmp, ev_const, ev_func, oc_int, oc_bool, oc_nils, o_move, o_assign, o_pick, o_bin, o_call, o_len, o_alloc, o_build, o_buildSlice, o_load, o_store, o_un, o_fieldAddr, o_indexAddr, o_append, g_none, g_some, pick_bool, bin_add, bin_rem, bin_eql, bin_neq, bin_lss, un_not, Option.bind_some, Option.map_some, decide_eq_true_eq, ↓reduceIte, Nat.reduceEqDiff, not_false_eq_true, not_true_eq_false, Nat.reduceAdd, Nat.reduceMul, List.getElem?_cons_zero, List.getElem?_cons_succ, List.getElem?_toArray, Bool.false_eq_true, List.map_cons, List.map_nil, List.append_nil, List.nil_append, List.cons_append, and_true, Nat.reduceLeDiff, Nat.le_refl, Bool.not_eq_eq_eq_not, Bool.not_true, ne_eq, decide_eq_false_iff_not, load_fpA T53 a53, s53, alloc_t T53, z53, fa_ptr T53 p53_0 (by decide), load_p1 T3 a3, loadc_def, fa_ptr T53 p53_2 (by decide), o_lookup, fa_ptr T53 p53_4 (by decide), load_p1 T48 a48, fa_ptr T53 p53_5 (by decide), load_p1 T4 a4, o_mapUpdate, build_struct T56 d56, z56, parts_eq, fillA, AV.cells, AH.splice, List.take_succ_cons, List.take_zero, List.drop_succ_cons, List.drop_zero, List.drop_nil, List.length_cons, List.length_nil, p56_0, p56_1, buildSl T50 d50 T56 (n := 1) (by rw [s56]; decide), s56, repl, load_fp1 T5 a5, build_struct T58 d58, z58, p58_0, alloc_t T58, run0_h, List.length_cons, List.length_nil, List.drop_zero, List.take_succ_cons, List.take_zero, Nat.zero_add, Nat.add_zero, e1, e2, e7, e9, e10, e12, d1, hlen, g1, g2, g3, y1, y3, c0, c3, c21, eq_true c51, hlk, u1, u3, (show ¬ (255 : Int) = 0 by decide), (show ¬ (2 : Int) = 0 by decide), k1, gB2, m1, gB3, p1, gB4, hlt, ct, hia2, v1, co, callV_fn (g := 21) (by decide), st1]
                refine iterL_wp (Q := fun r => ∃ h', r = some (.bool true, h')) (N := now3.length) (Inv := fun k e h' => ∃ q dv v, k + q = now3.length ∧ L5 h4 h' a.cl (now3.take q) dv v ∧ q ≤ now3.length ∧ e 1 = VL ∧ e 2 = VT ∧ e 7 = .ptr 0 0 ∧ e 9 = nv2 ∧ e 10 = .mp 1 ∧ e 11 = wv ∧ e 12 = .int .i64 (i : Nat) ∧ e 13 = .ptr B0 0 ∧ e 15 = .ptr h4.next 0 ∧ e 16 = v ∧ e 17 = .int .i64 (q : Nat)) ?_ ?_ (by omega)
                · rintro k e h' K' ⟨q, dv, v, hk, hL, hql, e1, e2, e7, e9, e10, e11, e12, e13, e15, e16, e17⟩ hnext hexit
                  have hbx := hL.bx
                  have hgB := (hL.g.2 _ hB4).trans gBB
                  have hnr := W3.n.grow hL.g
                  have hln : ∀ h, aLen T 50 nv2 h = some (.int .i64 (now3.length : Nat)) := fun h => by rw [hn3]; exact W3.n.len T50 d50
                  by_cases hq : q < now3.length
                  · have dq : (q : Int) < (now3.length : Int) := by omega
                    obtain ⟨x5, hx5⟩ : ∃ x5, now3[q]? = some x5 := ⟨now3[q], List.getElem?_eq_getElem hq⟩
                    have htq : now3.take (q + 1) = now3.take q ++ [x5] := by rw [List.take_add_one, hx5]; rfl
                    obtain ⟨b5, cs5, bk5, j1, j2, j3, j4, j5, j6⟩ := loadPe hnr (by rw [← hn3]; exact hx5)
                    have j5' : cs5[q * 2 + 0]? = some (.int .i64 x5.c) := j5
                    have c9 : IntKind.i64.wrap ((q : Int) + 1) = ((q + 1 : Nat) : Int) := by rw [wrap_i64 (by omega) (by omega)]; rfl
                    by_cases hxc : x5.c = a.cl
                    · obtain ⟨dv2, hh2, hh3, s1', s2', s3', s4'⟩ := hL.hit hxc (by
                        have := dat_le a.cl now3 (q + 1)
                        rw [htq, (dat_hit hxc).1, List.length_append] at this
                        omega)
                      rw [← htq] at s4'
                      simp +contextual (maxSteps := 3000000) only [↓code_skip, ↓code_seq, ↓code_region, ↓code_cond, ↓code_block, aCond_bool, ↓ops_nil, ↓ops_cons, run_none, ↓run0_v, ↓run0_h, ↓run0_r, ↓seqK_normal, ↓blkK_normal, put_same, put_ne, put_none, ev_tmp, ev_const, oc_int, o_move, o_assign, o_bin, o_len, o_load, o_store, o_fieldAddr, o_indexAddr, o_append, g_none, bin_add, bin_eql, bin_lss, decide_eq_true_eq, ↓reduceIte, Nat.reduceEqDiff, not_false_eq_true, List.getElem?_cons_zero, List.getElem?_cons_succ, ne_eq, load_p1 T3 a3, loadc_def, fa_ptr T53 p53_2 (by decide), load_p1 T48 a48, fa_ptr T56 p56_0 (by decide), fa_ptr T58 p58_1 (by decide), fa_ptr T56 p56_1 (by decide), run0_h, Nat.zero_add, Nat.add_zero, e9, e13, e15, e17, dq, hln, hbx, hgB, j1, j2, j5, j6, eq_true hxc, s1', s3', c9]
                      refine hnext (k - 1) _ _ (by omega) ⟨q + 1, dv2, v, by omega, ?_, ?_, ?_, ?_, ?_, ?_, ?_, ?_, ?_, ?_, ?_, ?_, ?_⟩
                      · exact s4'
                      · omega
                      · simp only [put_ne, Nat.reduceEqDiff, not_false_eq_true, ne_eq, e1]
                      · simp only [put_ne, Nat.reduceEqDiff, not_false_eq_true, ne_eq, e2]
                      · simp only [put_ne, Nat.reduceEqDiff, not_false_eq_true, ne_eq, e7]
                      · simp only [put_ne, Nat.reduceEqDiff, not_false_eq_true, ne_eq, e9]
                      · simp only [put_ne, Nat.reduceEqDiff, not_false_eq_true, ne_eq, e10]
                      · simp only [put_ne, Nat.reduceEqDiff, not_false_eq_true, ne_eq, e11]
                      · simp only [put_ne, Nat.reduceEqDiff, not_false_eq_true, ne_eq, e12]
                      · simp only [put_ne, Nat.reduceEqDiff, not_false_eq_true, ne_eq, e13]
                      · simp only [put_ne, Nat.reduceEqDiff, not_false_eq_true, ne_eq, e15]
                      · simp only [put_ne, Nat.reduceEqDiff, not_false_eq_true, ne_eq, e16]
                      · simp only [put_same]
                    · obtain ⟨v2, hh2, s1', s4'⟩ := hL.miss hxc (by rw [List.length_take]; omega)
                      rw [← htq] at s4'
                      simp +contextual (maxSteps := 3000000) only [↓code_skip, ↓code_seq, ↓code_region, ↓code_cond, ↓code_block, aCond_bool, ↓ops_nil, ↓ops_cons, run_none, ↓run0_v, ↓run0_r, ↓seqK_normal, ↓blkK_normal, put_same, put_ne, ev_tmp, ev_const, oc_int, o_move, o_assign, o_bin, o_len, o_buildSlice, o_load, o_fieldAddr, o_indexAddr, o_append, g_none, bin_add, bin_eql, bin_lss, Option.bind_some, Option.map_some, decide_eq_true_eq, ↓reduceIte, Nat.reduceEqDiff, not_false_eq_true, Nat.reduceAdd, Nat.reduceMul, Nat.succ_ne_self, List.getElem?_cons_zero, List.getElem?_cons_succ, List.map_cons, List.map_nil, List.append_nil, List.nil_append, and_true, Nat.le_refl, ne_eq, loadn_def, load_p1 T3 a3, loadc_def, fa_ptr T53 p53_2 (by decide), z56, parts_eq, fillA, AV.cells, AH.splice, List.take_zero, List.drop_succ_cons, List.drop_nil, List.length_cons, List.length_nil, buildSl T50 d50 T56 (n := 1) (by rw [s56]; decide), s56, repl, fa_ptr T56 p56_0 (by decide), load_pA T56 a56, List.length_cons, List.length_nil, List.take_zero, Nat.zero_add, Nat.add_zero, e9, e13, e16, e17, dq, hln, hgB, j1, j2, j3, j4, j5, hxc, s1', c9]
                      refine hnext (k - 1) _ _ (by omega) ⟨q + 1, dv, v2, by omega, ?_, ?_, ?_, ?_, ?_, ?_, ?_, ?_, ?_, ?_, ?_, ?_, ?_⟩
                      · exact s4'
                      · omega
                      · simp only [put_ne, Nat.reduceEqDiff, not_false_eq_true, ne_eq, e1]
                      · simp only [put_ne, Nat.reduceEqDiff, not_false_eq_true, ne_eq, e2]
                      · simp only [put_ne, Nat.reduceEqDiff, not_false_eq_true, ne_eq, e7]
                      · simp only [put_ne, Nat.reduceEqDiff, not_false_eq_true, ne_eq, e9]
                      · simp only [put_ne, Nat.reduceEqDiff, not_false_eq_true, ne_eq, e10]
                      · simp only [put_ne, Nat.reduceEqDiff, not_false_eq_true, ne_eq, e11]
                      · simp only [put_ne, Nat.reduceEqDiff, not_false_eq_true, ne_eq, e12]
                      · simp only [put_ne, Nat.reduceEqDiff, not_false_eq_true, ne_eq, e13]
                      · simp only [put_ne, Nat.reduceEqDiff, not_false_eq_true, ne_eq, e15]
                      · simp only [put_same, put_ne, Nat.reduceEqDiff, not_false_eq_true, ne_eq]
                      · simp only [put_same]
                  · have dq : ¬ (q : Int) < (now3.length : Int) := by omega
                    rw [List.take_of_length_le (by omega)] at hL
                    obtain ⟨h8, wv2, h9, f1, f2, f3, f4⟩ := W3.last (by rw [← hn3]; exact hL) (by have := congrArg List.length hK.js; rw [List.length_map] at this; have := hK.jl; omega)
                    rw [← hn3, hsq3, hnp3] at f4
                    obtain ⟨v', h6, sq2, now2, t1, t2, t3⟩ := tail5 h32 h14 h22 4739 0 1 (i + 1) V2 off2 _ v wv2 _ _ _ h9 f4 z3 z4 ⟨by omega, by omega⟩
                    simp +contextual (maxSteps := 3000000) only [↓code_seq, ↓code_region, ↓code_cond, ↓code_exit, aCond_bool, ↓ops_nil, ↓ops_cons, run_none, ↓run0_v, ↓seqK_normal, ↓seqK_exit, put_same, put_ne, ev_tmp, o_move, o_bin, o_len, g_none, bin_lss, decide_eq_true_eq, ↓reduceIte, Nat.reduceEqDiff, not_false_eq_true, ne_eq, e9, e17, dq, hln]
                    refine hexit _ _ _ (by simp) ?_
                    simp +contextual (maxSteps := 3000000) only [↓code_seq, ↓code_region, ↓ops_nil, ↓ops_cons, run_none, ↓run0_v, ↓run0_h, ↓run0_r, ↓seqK_normal, ↓blkK_normal, ↓blkK_exit, put_same, put_ne, put_none, ev_tmp, ev_const, ev_func, oc_int, o_move, o_assign, o_bin, o_call, o_buildSlice, o_load, o_fieldAddr, o_append, g_none, bin_add, Option.bind_some, Option.map_some, ↓reduceIte, Nat.reduceEqDiff, not_false_eq_true, Nat.reduceAdd, Nat.reduceMul, Nat.succ_ne_self, List.getElem?_cons_zero, List.getElem?_cons_succ, List.map_cons, List.map_nil, List.append_nil, List.nil_append, and_true, Nat.le_refl, ne_eq, loadn_def, load_p1 T3 a3, loadc_def, fa_ptr T53 p53_2 (by decide), o_mapUpdate, parts_eq, fillA, AV.cells, AH.splice, List.take_succ_cons, List.take_zero, List.take_nil, List.drop_succ_cons, List.drop_zero, List.drop_nil, List.length_cons, List.length_nil, repl, z58, run0_h, load_pA T58 a58, s58, buildSl T51 d51 T58 (n := 1) (by rw [s58]; decide), List.length_cons, List.length_nil, List.drop_zero, List.take_succ_cons, List.take_zero, List.take_nil, Nat.zero_add, e7, e10, e11, e12, e13, e15, e16, hgB, f1, f2, f3, t1, c7, callV_fn (g := 22) (by decide)]
                    refine hnext0 (k0 - 1) _ _ (by omega) ⟨i + 1, off2, V2, sq2, v', now2, wv2, _, by omega, t2, ?_, by omega, ?_, ?_, ?_, ?_, ?_, ?_, ?_⟩
                    · rw [List.map_append]; exact t3
                    · simp only [put_ne, Nat.reduceEqDiff, not_false_eq_true, ne_eq, e1]
                    · simp only [put_ne, Nat.reduceEqDiff, not_false_eq_true, ne_eq, e2]
                    · simp only [put_ne, Nat.reduceEqDiff, not_false_eq_true, ne_eq, e7]
                    · simp only [put_same, put_ne, Nat.reduceEqDiff, not_false_eq_true, ne_eq]
                    · simp only [put_ne, Nat.reduceEqDiff, not_false_eq_true, Nat.succ_ne_self, ne_eq, e10]
                    · simp only [put_same, put_ne, Nat.reduceEqDiff, not_false_eq_true, ne_eq]
                    · simp only [put_same]
                · refine ⟨0, .nils, .nils, by omega, ?_, ?_, ?_, ?_, ?_, ?_, ?_, ?_, ?_, ?_, ?_, ?_, ?_⟩
                  · exact L50
                  · omega
                  · simp only [put_ne, Nat.reduceEqDiff, not_false_eq_true, ne_eq, e1]
                  · simp only [put_ne, Nat.reduceEqDiff, not_false_eq_true, ne_eq, e2]
                  · simp only [put_ne, Nat.reduceEqDiff, not_false_eq_true, ne_eq, e7]
                  · simp only [put_same, put_ne, Nat.reduceEqDiff, not_false_eq_true, ne_eq]
                  · simp only [put_ne, Nat.reduceEqDiff, not_false_eq_true, Nat.succ_ne_self, ne_eq, e10]
                  · simp only [put_ne, Nat.reduceEqDiff, not_false_eq_true, ne_eq, e11]
                  · simp only [put_ne, Nat.reduceEqDiff, not_false_eq_true, ne_eq, e12]
                  · simp only [put_same, put_ne, Nat.reduceEqDiff, not_false_eq_true, ne_eq]; rw [hB0]
                  · simp only [put_same, put_ne, Nat.reduceEqDiff, not_false_eq_true, ne_eq]
                  · simp only [put_same, put_ne, Nat.reduceEqDiff, not_false_eq_true, ne_eq]
                  · simp only [put_same]; rfl
            · rcases c5 with c21 | c51
              · simp +contextual (maxSteps := 3000000) only [↓code_skip, ↓code_seq, ↓code_region, ↓code_cond, ↓code_block, ↓code_loop, aCond_bool, ↓ops_nil, ↓ops_cons, run_none, run_someT, ↓run0_v, ↓run0_h, ↓run0_r, ↓seqK_normal, put_same, put_ne, put_none, ev_tmp, ev_const, ev_func, oc_int, oc_bool, oc_nils, o_move, o_assign, o_pick, o_bin, o_call, o_len, o_alloc, o_build, o_buildSlice, o_load, o_store, o_un, o_fieldAddr, o_indexAddr, o_append, g_none, g_some, pick_bool, bin_add, bin_rem, bin_eql, bin_neq, bin_lss, Option.bind_some, Option.map_some, decide_eq_true_eq, ↓reduceIte, Nat.reduceEqDiff, not_false_eq_true, not_true_eq_false, Nat.reduceAdd, Nat.reduceMul, List.getElem?_cons_zero, List.getElem?_cons_succ, List.getElem?_toArray, Bool.false_eq_true, List.map_cons, List.map_nil, List.append_nil, List.nil_append, List.cons_append, and_true, Nat.reduceLeDiff, Nat.le_refl, Bool.not_eq_eq_eq_not, Bool.not_true, ne_eq, decide_eq_false_iff_not, load_fpA T53 a53, s53, alloc_t T53, z53, fa_ptr T53 p53_0 (by decide), load_p1 T3 a3, loadc_def, fa_ptr T53 p53_2 (by decide), o_lookup, fa_ptr T53 p53_4 (by decide), load_p1 T48 a48, fa_ptr T53 p53_5 (by decide), load_p1 T4 a4, o_mapUpdate, build_struct T56 d56, z56, parts_eq, fillA, AV.cells, AH.splice, List.take_succ_cons, List.take_zero, List.drop_succ_cons, List.drop_zero, List.drop_nil, List.length_cons, List.length_nil, p56_0, p56_1, buildSl T50 d50 T56 (n := 1) (by rw [s56]; decide), s56, repl, load_fp1 T5 a5, build_struct T58 d58, z58, p58_0, alloc_t T58, run0_h, List.length_cons, List.length_nil, List.drop_zero, List.take_succ_cons, List.take_zero, Nat.zero_add, Nat.add_zero, e1, e2, e7, e9, e10, e12, d1, hlen, g1, g2, g3, y1, y3, c0, c3, eq_true c21, hlk, u1, u3, (show ¬ (255 : Int) = 0 by decide), (show ¬ (2 : Int) = 0 by decide), k1, gB2, m1, gB3, p1, gB4, hlt, ct, hia2, v1, co, callV_fn (g := 21) (by decide), st1]
                refine iterL_wp (Q := fun r => ∃ h', r = some (.bool true, h')) (N := now3.length) (Inv := fun k e h' => ∃ q dv v, k + q = now3.length ∧ L5 h4 h' a.cl (now3.take q) dv v ∧ q ≤ now3.length ∧ e 1 = VL ∧ e 2 = VT ∧ e 7 = .ptr 0 0 ∧ e 9 = nv2 ∧ e 10 = .mp 1 ∧ e 11 = wv ∧ e 12 = .int .i64 (i : Nat) ∧ e 13 = .ptr B0 0 ∧ e 15 = .ptr h4.next 0 ∧ e 16 = v ∧ e 17 = .int .i64 (q : Nat)) ?_ ?_ (by omega)
                · rintro k e h' K' ⟨q, dv, v, hk, hL, hql, e1, e2, e7, e9, e10, e11, e12, e13, e15, e16, e17⟩ hnext hexit
                  have hbx := hL.bx
                  have hgB := (hL.g.2 _ hB4).trans gBB
                  have hnr := W3.n.grow hL.g
                  have hln : ∀ h, aLen T 50 nv2 h = some (.int .i64 (now3.length : Nat)) := fun h => by rw [hn3]; exact W3.n.len T50 d50
                  by_cases hq : q < now3.length
                  · have dq : (q : Int) < (now3.length : Int) := by omega
                    obtain ⟨x5, hx5⟩ : ∃ x5, now3[q]? = some x5 := ⟨now3[q], List.getElem?_eq_getElem hq⟩
                    have htq : now3.take (q + 1) = now3.take q ++ [x5] := by rw [List.take_add_one, hx5]; rfl
                    obtain ⟨b5, cs5, bk5, j1, j2, j3, j4, j5, j6⟩ := loadPe hnr (by rw [← hn3]; exact hx5)
                    have j5' : cs5[q * 2 + 0]? = some (.int .i64 x5.c) := j5
                    have c9 : IntKind.i64.wrap ((q : Int) + 1) = ((q + 1 : Nat) : Int) := by rw [wrap_i64 (by omega) (by omega)]; rfl
                    by_cases hxc : x5.c = a.cl
                    · obtain ⟨dv2, hh2, hh3, s1', s2', s3', s4'⟩ := hL.hit hxc (by
                        have := dat_le a.cl now3 (q + 1)
                        rw [htq, (dat_hit hxc).1, List.length_append] at this
                        omega)
                      rw [← htq] at s4'
                      simp +contextual (maxSteps := 3000000) only [↓code_skip, ↓code_seq, ↓code_region, ↓code_cond, ↓code_block, aCond_bool, ↓ops_nil, ↓ops_cons, run_none, ↓run0_v, ↓run0_h, ↓run0_r, ↓seqK_normal, ↓blkK_normal, put_same, put_ne, put_none, ev_tmp, ev_const, oc_int, o_move, o_assign, o_bin, o_len, o_load, o_store, o_fieldAddr, o_indexAddr, o_append, g_none, bin_add, bin_eql, bin_lss, decide_eq_true_eq, ↓reduceIte, Nat.reduceEqDiff, not_false_eq_true, List.getElem?_cons_zero, List.getElem?_cons_succ, ne_eq, load_p1 T3 a3, loadc_def, fa_ptr T53 p53_2 (by decide), load_p1 T48 a48, fa_ptr T56 p56_0 (by decide), fa_ptr T58 p58_1 (by decide), fa_ptr T56 p56_1 (by decide), run0_h, Nat.zero_add, Nat.add_zero, e9, e13, e15, e17, dq, hln, hbx, hgB, j1, j2, j5, j6, eq_true hxc, s1', s3', c9]
                      refine hnext (k - 1) _ _ (by omega) ⟨q + 1, dv2, v, by omega, ?_, ?_, ?_, ?_, ?_, ?_, ?_, ?_, ?_, ?_, ?_, ?_, ?_⟩
                      · exact s4'
                      · omega
                      · simp only [put_ne, Nat.reduceEqDiff, not_false_eq_true, ne_eq, e1]
                      · simp only [put_ne, Nat.reduceEqDiff, not_false_eq_true, ne_eq, e2]
                      · simp only [put_ne, Nat.reduceEqDiff, not_false_eq_true, ne_eq, e7]
                      · simp only [put_ne, Nat.reduceEqDiff, not_false_eq_true, ne_eq, e9]
                      · simp only [put_ne, Nat.reduceEqDiff, not_false_eq_true, ne_eq, e10]
                      · simp only [put_ne, Nat.reduceEqDiff, not_false_eq_true, ne_eq, e11]
                      · simp only [put_ne, Nat.reduceEqDiff, not_false_eq_true, ne_eq, e12]
                      · simp only [put_ne, Nat.reduceEqDiff, not_false_eq_true, ne_eq, e13]
                      · simp only [put_ne, Nat.reduceEqDiff, not_false_eq_true, ne_eq, e15]
                      · simp only [put_ne, Nat.reduceEqDiff, not_false_eq_true, ne_eq, e16]
                      · simp only [put_same]
                    · obtain ⟨v2, hh2, s1', s4'⟩ := hL.miss hxc (by rw [List.length_take]; omega)
                      rw [← htq] at s4'
                      simp +contextual (maxSteps := 3000000) only [↓code_skip, ↓code_seq, ↓code_region, ↓code_cond, ↓code_block, aCond_bool, ↓ops_nil, ↓ops_cons, run_none, ↓run0_v, ↓run0_r, ↓seqK_normal, ↓blkK_normal, put_same, put_ne, ev_tmp, ev_const, oc_int, o_move, o_assign, o_bin, o_len, o_buildSlice, o_load, o_fieldAddr, o_indexAddr, o_append, g_none, bin_add, bin_eql, bin_lss, Option.bind_some, Option.map_some, decide_eq_true_eq, ↓reduceIte, Nat.reduceEqDiff, not_false_eq_true, Nat.reduceAdd, Nat.reduceMul, Nat.succ_ne_self, List.getElem?_cons_zero, List.getElem?_cons_succ, List.map_cons, List.map_nil, List.append_nil, List.nil_append, and_true, Nat.le_refl, ne_eq, loadn_def, load_p1 T3 a3, loadc_def, fa_ptr T53 p53_2 (by decide), z56, parts_eq, fillA, AV.cells, AH.splice, List.take_zero, List.drop_succ_cons, List.drop_nil, List.length_cons, List.length_nil, buildSl T50 d50 T56 (n := 1) (by rw [s56]; decide), s56, repl, fa_ptr T56 p56_0 (by decide), load_pA T56 a56, List.length_cons, List.length_nil, List.take_zero, Nat.zero_add, Nat.add_zero, e9, e13, e16, e17, dq, hln, hgB, j1, j2, j3, j4, j5, hxc, s1', c9]
                      refine hnext (k - 1) _ _ (by omega) ⟨q + 1, dv, v2, by omega, ?_, ?_, ?_, ?_, ?_, ?_, ?_, ?_, ?_, ?_, ?_, ?_, ?_⟩
                      · exact s4'
                      · omega
                      · simp only [put_ne, Nat.reduceEqDiff, not_false_eq_true, ne_eq, e1]
                      · simp only [put_ne, Nat.reduceEqDiff, not_false_eq_true, ne_eq, e2]
                      · simp only [put_ne, Nat.reduceEqDiff, not_false_eq_true, ne_eq, e7]
                      · simp only [put_ne, Nat.reduceEqDiff, not_false_eq_true, ne_eq, e9]
                      · simp only [put_ne, Nat.reduceEqDiff, not_false_eq_true, ne_eq, e10]
                      · simp only [put_ne, Nat.reduceEqDiff, not_false_eq_true, ne_eq, e11]
                      · simp only [put_ne, Nat.reduceEqDiff, not_false_eq_true, ne_eq, e12]
                      · simp only [put_ne, Nat.reduceEqDiff, not_false_eq_true, ne_eq, e13]
                      · simp only [put_ne, Nat.reduceEqDiff, not_false_eq_true, ne_eq, e15]
                      · simp only [put_same, put_ne, Nat.reduceEqDiff, not_false_eq_true, ne_eq]
                      · simp only [put_same]
                  · have dq : ¬ (q : Int) < (now3.length : Int) := by omega
                    rw [List.take_of_length_le (by omega)] at hL
                    obtain ⟨h8, wv2, h9, f1, f2, f3, f4⟩ := W3.last (by rw [← hn3]; exact hL) (by have := congrArg List.length hK.js; rw [List.length_map] at this; have := hK.jl; omega)
                    rw [← hn3, hsq3, hnp3] at f4
                    obtain ⟨v', h6, sq2, now2, t1, t2, t3⟩ := tail5 h32 h14 h22 4739 0 1 (i + 1) V2 off2 _ v wv2 _ _ _ h9 f4 z3 z4 ⟨by omega, by omega⟩
                    simp +contextual (maxSteps := 3000000) only [↓code_seq, ↓code_region, ↓code_cond, ↓code_exit, aCond_bool, ↓ops_nil, ↓ops_cons, run_none, ↓run0_v, ↓seqK_normal, ↓seqK_exit, put_same, put_ne, ev_tmp, o_move, o_bin, o_len, g_none, bin_lss, decide_eq_true_eq, ↓reduceIte, Nat.reduceEqDiff, not_false_eq_true, ne_eq, e9, e17, dq, hln]
                    refine hexit _ _ _ (by simp) ?_
                    simp +contextual (maxSteps := 3000000) only [↓code_seq, ↓code_region, ↓ops_nil, ↓ops_cons, run_none, ↓run0_v, ↓run0_h, ↓run0_r, ↓seqK_normal, ↓blkK_normal, ↓blkK_exit, put_same, put_ne, put_none, ev_tmp, ev_const, ev_func, oc_int, o_move, o_assign, o_bin, o_call, o_buildSlice, o_load, o_fieldAddr, o_append, g_none, bin_add, Option.bind_some, Option.map_some, ↓reduceIte, Nat.reduceEqDiff, not_false_eq_true, Nat.reduceAdd, Nat.reduceMul, Nat.succ_ne_self, List.getElem?_cons_zero, List.getElem?_cons_succ, List.map_cons, List.map_nil, List.append_nil, List.nil_append, and_true, Nat.le_refl, ne_eq, loadn_def, load_p1 T3 a3, loadc_def, fa_ptr T53 p53_2 (by decide), o_mapUpdate, parts_eq, fillA, AV.cells, AH.splice, List.take_succ_cons, List.take_zero, List.take_nil, List.drop_succ_cons, List.drop_zero, List.drop_nil, List.length_cons, List.length_nil, repl, z58, run0_h, load_pA T58 a58, s58, buildSl T51 d51 T58 (n := 1) (by rw [s58]; decide), List.length_cons, List.length_nil, List.drop_zero, List.take_succ_cons, List.take_zero, List.take_nil, Nat.zero_add, e7, e10, e11, e12, e13, e15, e16, hgB, f1, f2, f3, t1, c7, callV_fn (g := 22) (by decide)]
                    refine hnext0 (k0 - 1) _ _ (by omega) ⟨i + 1, off2, V2, sq2, v', now2, wv2, _, by omega, t2, ?_, by omega, ?_, ?_, ?_, ?_, ?_, ?_, ?_⟩
                    · rw [List.map_append]; exact t3
                    · simp only [put_ne, Nat.reduceEqDiff, not_false_eq_true, ne_eq, e1]
                    · simp only [put_ne, Nat.reduceEqDiff, not_false_eq_true, ne_eq, e2]
                    · simp only [put_ne, Nat.reduceEqDiff, not_false_eq_true, ne_eq, e7]
                    · simp only [put_same, put_ne, Nat.reduceEqDiff, not_false_eq_true, ne_eq]
                    · simp only [put_ne, Nat.reduceEqDiff, not_false_eq_true, Nat.succ_ne_self, ne_eq, e10]
                    · simp only [put_same, put_ne, Nat.reduceEqDiff, not_false_eq_true, ne_eq]
                    · simp only [put_same]
                · refine ⟨0, .nils, .nils, by omega, ?_, ?_, ?_, ?_, ?_, ?_, ?_, ?_, ?_, ?_, ?_, ?_, ?_⟩
                  · exact L50
                  · omega
                  · simp only [put_ne, Nat.reduceEqDiff, not_false_eq_true, ne_eq, e1]
                  · simp only [put_ne, Nat.reduceEqDiff, not_false_eq_true, ne_eq, e2]
                  · simp only [put_ne, Nat.reduceEqDiff, not_false_eq_true, ne_eq, e7]
                  · simp only [put_same, put_ne, Nat.reduceEqDiff, not_false_eq_true, ne_eq]
                  · simp only [put_ne, Nat.reduceEqDiff, not_false_eq_true, Nat.succ_ne_self, ne_eq, e10]
                  · simp only [put_ne, Nat.reduceEqDiff, not_false_eq_true, ne_eq, e11]
                  · simp only [put_ne, Nat.reduceEqDiff, not_false_eq_true, ne_eq, e12]
                  · simp only [put_same, put_ne, Nat.reduceEqDiff, not_false_eq_true, ne_eq]; rw [hB0]
                  · simp only [put_same, put_ne, Nat.reduceEqDiff, not_false_eq_true, ne_eq]
                  · simp only [put_same, put_ne, Nat.reduceEqDiff, not_false_eq_true, ne_eq]
                  · simp only [put_same]; rfl
              · have c21 : ¬ a.dd = 2 := by omega
                simp +contextual (maxSteps := 3000000) only [↓code_skip, ↓code_seq, ↓code_region, ↓code_cond, ↓code_block, ↓code_loop, aCond_bool, ↓ops_nil, ↓ops_cons, run_none, run_someT, ↓run0_v, ↓run0_h, ↓run0_r, ↓seqK_normal, put_same, put_ne, put_none, ev_tmp, ev_const, ev_func, oc_int, oc_bool, oc_nils, o_move, o_assign, o_pick, o_bin, o_call, o_len, o_alloc, o_build, o_buildSlice, o_load, o_store, o_un, o_fieldAddr, o_indexAddr, o_append, g_none, g_some, pick_bool, bin_add, bin_rem, bin_eql, bin_neq, bin_lss, Option.bind_some, Option.map_some, decide_eq_true_eq, ↓reduceIte, Nat.reduceEqDiff, not_false_eq_true, not_true_eq_false, Nat.reduceAdd, Nat.reduceMul, List.getElem?_cons_zero, List.getElem?_cons_succ, List.getElem?_toArray, Bool.false_eq_true, List.map_cons, List.map_nil, List.append_nil, List.nil_append, List.cons_append, and_true, Nat.reduceLeDiff, Nat.le_refl, Bool.not_eq_eq_eq_not, Bool.not_true, ne_eq, decide_eq_false_iff_not, load_fpA T53 a53, s53, alloc_t T53, z53, fa_ptr T53 p53_0 (by decide), load_p1 T3 a3, loadc_def, fa_ptr T53 p53_2 (by decide), o_lookup, fa_ptr T53 p53_4 (by decide), load_p1 T48 a48, fa_ptr T53 p53_5 (by decide), load_p1 T4 a4, o_mapUpdate, build_struct T56 d56, z56, parts_eq, fillA, AV.cells, AH.splice, List.take_succ_cons, List.take_zero, List.drop_succ_cons, List.drop_zero, List.drop_nil, List.length_cons, List.length_nil, p56_0, p56_1, buildSl T50 d50 T56 (n := 1) (by rw [s56]; decide), s56, repl, load_fp1 T5 a5, build_struct T58 d58, z58, p58_0, alloc_t T58, run0_h, List.length_cons, List.length_nil, List.drop_zero, List.take_succ_cons, List.take_zero, Nat.zero_add, Nat.add_zero, e1, e2, e7, e9, e10, e12, d1, hlen, g1, g2, g3, y1, y3, c0, c3, c21, eq_true c51, hlk, u1, u3, (show ¬ (255 : Int) = 0 by decide), (show ¬ (2 : Int) = 0 by decide), k1, gB2, m1, gB3, p1, gB4, hlt, ct, hia2, v1, co, callV_fn (g := 21) (by decide), st1]
                refine iterL_wp (Q := fun r => ∃ h', r = some (.bool true, h')) (N := now3.length) (Inv := fun k e h' => ∃ q dv v, k + q = now3.length ∧ L5 h4 h' a.cl (now3.take q) dv v ∧ q ≤ now3.length ∧ e 1 = VL ∧ e 2 = VT ∧ e 7 = .ptr 0 0 ∧ e 9 = nv2 ∧ e 10 = .mp 1 ∧ e 11 = wv ∧ e 12 = .int .i64 (i : Nat) ∧ e 13 = .ptr B0 0 ∧ e 15 = .ptr h4.next 0 ∧ e 16 = v ∧ e 17 = .int .i64 (q : Nat)) ?_ ?_ (by omega)
                · rintro k e h' K' ⟨q, dv, v, hk, hL, hql, e1, e2, e7, e9, e10, e11, e12, e13, e15, e16, e17⟩ hnext hexit
                  have hbx := hL.bx
                  have hgB := (hL.g.2 _ hB4).trans gBB
                  have hnr := W3.n.grow hL.g
                  have hln : ∀ h, aLen T 50 nv2 h = some (.int .i64 (now3.length : Nat)) := fun h => by rw [hn3]; exact W3.n.len T50 d50
                  by_cases hq : q < now3.length
                  · have dq : (q : Int) < (now3.length : Int) := by omega
                    obtain ⟨x5, hx5⟩ : ∃ x5, now3[q]? = some x5 := ⟨now3[q], List.getElem?_eq_getElem hq⟩
                    have htq : now3.take (q + 1) = now3.take q ++ [x5] := by rw [List.take_add_one, hx5]; rfl
                    obtain ⟨b5, cs5, bk5, j1, j2, j3, j4, j5, j6⟩ := loadPe hnr (by rw [← hn3]; exact hx5)
                    have j5' : cs5[q * 2 + 0]? = some (.int .i64 x5.c) := j5
                    have c9 : IntKind.i64.wrap ((q : Int) + 1) = ((q + 1 : Nat) : Int) := by rw [wrap_i64 (by omega) (by omega)]; rfl
                    by_cases hxc : x5.c = a.cl
                    · obtain ⟨dv2, hh2, hh3, s1', s2', s3', s4'⟩ := hL.hit hxc (by
                        have := dat_le a.cl now3 (q + 1)
                        rw [htq, (dat_hit hxc).1, List.length_append] at this
                        omega)
                      rw [← htq] at s4'
                      simp +contextual (maxSteps := 3000000) only [↓code_skip, ↓code_seq, ↓code_region, ↓code_cond, ↓code_block, aCond_bool, ↓ops_nil, ↓ops_cons, run_none, ↓run0_v, ↓run0_h, ↓run0_r, ↓seqK_normal, ↓blkK_normal, put_same, put_ne, put_none, ev_tmp, ev_const, oc_int, o_move, o_assign, o_bin, o_len, o_load, o_store, o_fieldAddr, o_indexAddr, o_append, g_none, bin_add, bin_eql, bin_lss, decide_eq_true_eq, ↓reduceIte, Nat.reduceEqDiff, not_false_eq_true, List.getElem?_cons_zero, List.getElem?_cons_succ, ne_eq, load_p1 T3 a3, loadc_def, fa_ptr T53 p53_2 (by decide), load_p1 T48 a48, fa_ptr T56 p56_0 (by decide), fa_ptr T58 p58_1 (by decide), fa_ptr T56 p56_1 (by decide), run0_h, Nat.zero_add, Nat.add_zero, e9, e13, e15, e17, dq, hln, hbx, hgB, j1, j2, j5, j6, eq_true hxc, s1', s3', c9]
                      refine hnext (k - 1) _ _ (by omega) ⟨q + 1, dv2, v, by omega, ?_, ?_, ?_, ?_, ?_, ?_, ?_, ?_, ?_, ?_, ?_, ?_, ?_⟩
                      · exact s4'
                      · omega
                      · simp only [put_ne, Nat.reduceEqDiff, not_false_eq_true, ne_eq, e1]
                      · simp only [put_ne, Nat.reduceEqDiff, not_false_eq_true, ne_eq, e2]
                      · simp only [put_ne, Nat.reduceEqDiff, not_false_eq_true, ne_eq, e7]
                      · simp only [put_ne, Nat.reduceEqDiff, not_false_eq_true, ne_eq, e9]
                      · simp only [put_ne, Nat.reduceEqDiff, not_false_eq_true, ne_eq, e10]
                      · simp only [put_ne, Nat.reduceEqDiff, not_false_eq_true, ne_eq, e11]
                      · simp only [put_ne, Nat.reduceEqDiff, not_false_eq_true, ne_eq, e12]
                      · simp only [put_ne, Nat.reduceEqDiff, not_false_eq_true, ne_eq, e13]
                      · simp only [put_ne, Nat.reduceEqDiff, not_false_eq_true, ne_eq, e15]
                      · simp only [put_ne, Nat.reduceEqDiff, not_false_eq_true, ne_eq, e16]
                      · simp only [put_same]
                    · obtain ⟨v2, hh2, s1', s4'⟩ := hL.miss hxc (by rw [List.length_take]; omega)
                      rw [← htq] at s4'
                      simp +contextual (maxSteps := 3000000) only [↓code_skip, ↓code_seq, ↓code_region, ↓code_cond, ↓code_block, aCond_bool, ↓ops_nil, ↓ops_cons, run_none, ↓run0_v, ↓run0_r, ↓seqK_normal, ↓blkK_normal, put_same, put_ne, ev_tmp, ev_const, oc_int, o_move, o_assign, o_bin, o_len, o_buildSlice, o_load, o_fieldAddr, o_indexAddr, o_append, g_none, bin_add, bin_eql, bin_lss, Option.bind_some, Option.map_some, decide_eq_true_eq, ↓reduceIte, Nat.reduceEqDiff, not_false_eq_true, Nat.reduceAdd, Nat.reduceMul, Nat.succ_ne_self, List.getElem?_cons_zero, List.getElem?_cons_succ, List.map_cons, List.map_nil, List.append_nil, List.nil_append, and_true, Nat.le_refl, ne_eq, loadn_def, load_p1 T3 a3, loadc_def, fa_ptr T53 p53_2 (by decide), z56, parts_eq, fillA, AV.cells, AH.splice, List.take_zero, List.drop_succ_cons, List.drop_nil, List.length_cons, List.length_nil, buildSl T50 d50 T56 (n := 1) (by rw [s56]; decide), s56, repl, fa_ptr T56 p56_0 (by decide), load_pA T56 a56, List.length_cons, List.length_nil, List.take_zero, Nat.zero_add, Nat.add_zero, e9, e13, e16, e17, dq, hln, hgB, j1, j2, j3, j4, j5, hxc, s1', c9]
                      refine hnext (k - 1) _ _ (by omega) ⟨q + 1, dv, v2, by omega, ?_, ?_, ?_, ?_, ?_, ?_, ?_, ?_, ?_, ?_, ?_, ?_, ?_⟩
                      · exact s4'
                      · omega
                      · simp only [put_ne, Nat.reduceEqDiff, not_false_eq_true, ne_eq, e1]
                      · simp only [put_ne, Nat.reduceEqDiff, not_false_eq_true, ne_eq, e2]
                      · simp only [put_ne, Nat.reduceEqDiff, not_false_eq_true, ne_eq, e7]
                      · simp only [put_ne, Nat.reduceEqDiff, not_false_eq_true, ne_eq, e9]
                      · simp only [put_ne, Nat.reduceEqDiff, not_false_eq_true, ne_eq, e10]
                      · simp only [put_ne, Nat.reduceEqDiff, not_false_eq_true, ne_eq, e11]
                      · simp only [put_ne, Nat.reduceEqDiff, not_false_eq_true, ne_eq, e12]
                      · simp only [put_ne, Nat.reduceEqDiff, not_false_eq_true, ne_eq, e13]
                      · simp only [put_ne, Nat.reduceEqDiff, not_false_eq_true, ne_eq, e15]
                      · simp only [put_same, put_ne, Nat.reduceEqDiff, not_false_eq_true, ne_eq]
                      · simp only [put_same]
                  · have dq : ¬ (q : Int) < (now3.length : Int) := by omega
                    rw [List.take_of_length_le (by omega)] at hL
                    obtain ⟨h8, wv2, h9, f1, f2, f3, f4⟩ := W3.last (by rw [← hn3]; exact hL) (by have := congrArg List.length hK.js; rw [List.length_map] at this; have := hK.jl; omega)
                    rw [← hn3, hsq3, hnp3] at f4
                    obtain ⟨v', h6, sq2, now2, t1, t2, t3⟩ := tail5 h32 h14 h22 4739 0 1 (i + 1) V2 off2 _ v wv2 _ _ _ h9 f4 z3 z4 ⟨by omega, by omega⟩
                    simp +contextual (maxSteps := 3000000) only [↓code_seq, ↓code_region, ↓code_cond, ↓code_exit, aCond_bool, ↓ops_nil, ↓ops_cons, run_none, ↓run0_v, ↓seqK_normal, ↓seqK_exit, put_same, put_ne, ev_tmp, o_move, o_bin, o_len, g_none, bin_lss, decide_eq_true_eq, ↓reduceIte, Nat.reduceEqDiff, not_false_eq_true, ne_eq, e9, e17, dq, hln]
                    refine hexit _ _ _ (by simp) ?_
                    simp +contextual (maxSteps := 3000000) only [↓code_seq, ↓code_region, ↓ops_nil, ↓ops_cons, run_none, ↓run0_v, ↓run0_h, ↓run0_r, ↓seqK_normal, ↓blkK_normal, ↓blkK_exit, put_same, put_ne, put_none, ev_tmp, ev_const, ev_func, oc_int, o_move, o_assign, o_bin, o_call, o_buildSlice, o_load, o_fieldAddr, o_append, g_none, bin_add, Option.bind_some, Option.map_some, ↓reduceIte, Nat.reduceEqDiff, not_false_eq_true, Nat.reduceAdd, Nat.reduceMul, Nat.succ_ne_self, List.getElem?_cons_zero, List.getElem?_cons_succ, List.map_cons, List.map_nil, List.append_nil, List.nil_append, and_true, Nat.le_refl, ne_eq, loadn_def, load_p1 T3 a3, loadc_def, fa_ptr T53 p53_2 (by decide), o_mapUpdate, parts_eq, fillA, AV.cells, AH.splice, List.take_succ_cons, List.take_zero, List.take_nil, List.drop_succ_cons, List.drop_zero, List.drop_nil, List.length_cons, List.length_nil, repl, z58, run0_h, load_pA T58 a58, s58, buildSl T51 d51 T58 (n := 1) (by rw [s58]; decide), List.length_cons, List.length_nil, List.drop_zero, List.take_succ_cons, List.take_zero, List.take_nil, Nat.zero_add, e7, e10, e11, e12, e13, e15, e16, hgB, f1, f2, f3, t1, c7, callV_fn (g := 22) (by decide)]
                    refine hnext0 (k0 - 1) _ _ (by omega) ⟨i + 1, off2, V2, sq2, v', now2, wv2, _, by omega, t2, ?_, by omega, ?_, ?_, ?_, ?_, ?_, ?_, ?_⟩
                    · rw [List.map_append]; exact t3
                    · simp only [put_ne, Nat.reduceEqDiff, not_false_eq_true, ne_eq, e1]
                    · simp only [put_ne, Nat.reduceEqDiff, not_false_eq_true, ne_eq, e2]
                    · simp only [put_ne, Nat.reduceEqDiff, not_false_eq_true, ne_eq, e7]
                    · simp only [put_same, put_ne, Nat.reduceEqDiff, not_false_eq_true, ne_eq]
                    · simp only [put_ne, Nat.reduceEqDiff, not_false_eq_true, Nat.succ_ne_self, ne_eq, e10]
                    · simp only [put_same, put_ne, Nat.reduceEqDiff, not_false_eq_true, ne_eq]
                    · simp only [put_same]
                · refine ⟨0, .nils, .nils, by omega, ?_, ?_, ?_, ?_, ?_, ?_, ?_, ?_, ?_, ?_, ?_, ?_, ?_⟩
                  · exact L50
                  · omega
                  · simp only [put_ne, Nat.reduceEqDiff, not_false_eq_true, ne_eq, e1]
                  · simp only [put_ne, Nat.reduceEqDiff, not_false_eq_true, ne_eq, e2]
                  · simp only [put_ne, Nat.reduceEqDiff, not_false_eq_true, ne_eq, e7]
                  · simp only [put_same, put_ne, Nat.reduceEqDiff, not_false_eq_true, ne_eq]
                  · simp only [put_ne, Nat.reduceEqDiff, not_false_eq_true, Nat.succ_ne_self, ne_eq, e10]
                  · simp only [put_ne, Nat.reduceEqDiff, not_false_eq_true, ne_eq, e11]
                  · simp only [put_ne, Nat.reduceEqDiff, not_false_eq_true, ne_eq, e12]
                  · simp only [put_same, put_ne, Nat.reduceEqDiff, not_false_eq_true, ne_eq]; rw [hB0]
                  · simp only [put_same, put_ne, Nat.reduceEqDiff, not_false_eq_true, ne_eq]
                  · simp only [put_same, put_ne, Nat.reduceEqDiff, not_false_eq_true, ne_eq]
                  · simp only [put_same]; rfl
        · obtain ⟨z1, z2, z3, z4, z5⟩ := z
          obtain ⟨V2, hV2⟩ : ∃ V2, V2 = (SendV V a.cl N a.da a.en).2 := ⟨_, rfl⟩
          rw [z1] at k1
          rw [← hV2] at k2 z3 z4 z5
          rw [z2] at g3 y1 y3 k1
          have oB : off h'.next := hW.v.off_ge (Nat.le_refl _)
          have hW1 := hW.bl
          have k31 := k3.1
          have gB2 := (k3.2 h'.next (by omega) oB).1.trans y3
          have oB2 := (k3.2 h'.next (by omega) oB).2
          have W1 := hWz.op k2 k3
          obtain ⟨h3, m1, m2, m3, m4⟩ := W1.m.upd m41 a.cl N
          have W2 : W5 h3 0 V2 off2 1 (setS sq a.cl N) nv now wv J := W1.map m2 ⟨by omega, fun c _ hn => m4 c hn⟩
          have gB3 := (m4 h'.next (by omega)).trans gB2
          have hnl := hK.nl
          obtain ⟨nv2, h4, p1, p2, p3, p4, p5⟩ := W2.n.push (new := [.int .i64 a.cl, .lst false 1 a.da.length (bytes a.da)]) T50 d50 T56 s56 (by decide) (by rw [b56]; decide) rfl (Pe.one ⟨a.cl, a.da⟩) (by rw [b56]; simp [maxBytes]; omega)
          have W3 : W5 h4 0 V2 off2 1 (setS sq a.cl N) nv2 (now ++ [⟨a.cl, a.da⟩]) wv J := W2.pieces (by rw [fl_app, List.length_append]; exact p2) (by omega) p4 p5
          have gB4 := (p4 h'.next (by omega) (offRow_ge hW.n (Nat.le_refl _))).trans gB3
          obtain ⟨h5, off3, r1, r2, r3⟩ := V21b h30 h32 h57 h38 h39 h43 h42 h21 h60 4689 0 a.cl N (.lst false 1 a.da.length (bytes a.da)) a.en V2 off2 h4 a.da W3.v (by rw [z3.q]; decide) (fun s hs => by have := z3.ss s hs; omega) (pc_lst a.da) (by rw [z3.q]; decide) (by have := z3.jl; omega)
          simp only [z5] at r1 r2
          rw [z2] at r1
          have W4 := W3.op r2 r3
          have gB5 := (r3.2 h'.next (by omega) oB2).1.trans gB4
          by_cases ct : (i : Int) < (tw.length : Int)
          rotate_left
          · rcases c5 with c21 | c51
            · obtain ⟨v, h6, sq2, now2, t1, t2, t3⟩ := tail5 h32 h14 h22 4739 0 1 (i + 1) V2 off2 (setS sq a.cl N) nv2 wv (now ++ [⟨a.cl, a.da⟩]) J _ h4 W3 z3 z4 ⟨by omega, by omega⟩
              simp +contextual (maxSteps := 3000000) only [↓code_skip, ↓code_seq, ↓code_region, ↓code_cond, ↓code_block, aCond_bool, ↓ops_nil, ↓ops_cons, run_none, run_someT, ↓run0_v, ↓run0_h, ↓run0_r, ↓seqK_normal, ↓blkK_normal, put_same, put_ne, put_none, ev_tmp, ev_const, ev_func, oc_int, oc_bool, o_move, o_assign, o_pick, o_bin, o_call, o_len, o_alloc, o_build, o_buildSlice, o_load, o_store, o_un, o_fieldAddr, o_indexAddr, o_append, g_none, g_some, pick_bool, bin_add, bin_rem, bin_eql, bin_neq, bin_lss, Option.bind_some, Option.map_some, decide_eq_true_eq, ↓reduceIte, Nat.reduceEqDiff, not_false_eq_true, not_true_eq_false, Nat.reduceAdd, Nat.reduceMul, Nat.succ_ne_self, List.getElem?_cons_zero, List.getElem?_cons_succ, List.getElem?_toArray, Bool.false_eq_true, List.map_cons, List.map_nil, List.append_nil, List.nil_append, List.cons_append, and_true, Nat.reduceLeDiff, Nat.le_refl, Bool.not_eq_eq_eq_not, Bool.not_true, ne_eq, decide_eq_false_iff_not, load_fpA T53 a53, s53, alloc_t T53, z53, fa_ptr T53 p53_0 (by decide), load_p1 T3 a3, loadc_def, fa_ptr T53 p53_2 (by decide), o_lookup, fa_ptr T53 p53_4 (by decide), load_p1 T48 a48, fa_ptr T53 p53_5 (by decide), load_p1 T4 a4, o_mapUpdate, build_struct T56 d56, z56, parts_eq, fillA, AV.cells, AH.splice, List.take_succ_cons, List.take_zero, List.drop_succ_cons, List.drop_zero, List.drop_nil, List.length_cons, List.length_nil, p56_0, p56_1, buildSl T50 d50 T56 (n := 1) (by rw [s56]; decide), s56, repl, run0_h, List.length_cons, List.length_nil, List.drop_zero, List.take_succ_cons, List.take_zero, Nat.zero_add, Nat.add_zero, e1, e2, e7, e9, e10, e12, d1, hlen, g1, g2, g3, y1, y3, c0, c3, eq_true c21, hlk, u1, u3, (show ¬ (255 : Int) = 0 by decide), k1, gB2, m1, gB3, p1, gB4, hlt, ct, callV_fn (g := 21) (by decide), callV_fn (g := 22) (by decide), t1, c7]
              refine hnext (k - 1) _ _ (by omega) ⟨i + 1, off2, V2, sq2, v, now2, wv, J, by omega, ?_, ?_, ?_, ?_, ?_, ?_, ?_, ?_, ?_, ?_⟩
              · exact t2
              · exact t3
              · omega
              · simp only [put_ne, Nat.reduceEqDiff, not_false_eq_true, ne_eq, e1]
              · simp only [put_ne, Nat.reduceEqDiff, not_false_eq_true, ne_eq, e2]
              · simp only [put_ne, Nat.reduceEqDiff, not_false_eq_true, ne_eq, e7]
              · simp only [put_same, put_ne, Nat.reduceEqDiff, not_false_eq_true, ne_eq]
              · simp only [put_ne, Nat.reduceEqDiff, not_false_eq_true, Nat.succ_ne_self, ne_eq, e10]
              · simp only [put_ne, Nat.reduceEqDiff, not_false_eq_true, ne_eq, e11]
              · simp only [put_same]
            · have c21 : ¬ a.dd = 2 := by omega
              obtain ⟨v, h6, sq2, now2, t1, t2, t3⟩ := tail5 h32 h14 h22 4739 0 1 (i + 1) V2 off2 (setS sq a.cl N) nv2 wv (now ++ [⟨a.cl, a.da⟩]) J _ h4 W3 z3 z4 ⟨by omega, by omega⟩
              simp +contextual (maxSteps := 3000000) only [↓code_skip, ↓code_seq, ↓code_region, ↓code_cond, ↓code_block, aCond_bool, ↓ops_nil, ↓ops_cons, run_none, run_someT, ↓run0_v, ↓run0_h, ↓run0_r, ↓seqK_normal, ↓blkK_normal, put_same, put_ne, put_none, ev_tmp, ev_const, ev_func, oc_int, oc_bool, o_move, o_assign, o_pick, o_bin, o_call, o_len, o_alloc, o_build, o_buildSlice, o_load, o_store, o_un, o_fieldAddr, o_indexAddr, o_append, g_none, g_some, pick_bool, bin_add, bin_rem, bin_eql, bin_neq, bin_lss, Option.bind_some, Option.map_some, decide_eq_true_eq, ↓reduceIte, Nat.reduceEqDiff, not_false_eq_true, not_true_eq_false, Nat.reduceAdd, Nat.reduceMul, Nat.succ_ne_self, List.getElem?_cons_zero, List.getElem?_cons_succ, List.getElem?_toArray, Bool.false_eq_true, List.map_cons, List.map_nil, List.append_nil, List.nil_append, List.cons_append, and_true, Nat.reduceLeDiff, Nat.le_refl, Bool.not_eq_eq_eq_not, Bool.not_true, ne_eq, decide_eq_false_iff_not, load_fpA T53 a53, s53, alloc_t T53, z53, fa_ptr T53 p53_0 (by decide), load_p1 T3 a3, loadc_def, fa_ptr T53 p53_2 (by decide), o_lookup, fa_ptr T53 p53_4 (by decide), load_p1 T48 a48, fa_ptr T53 p53_5 (by decide), load_p1 T4 a4, o_mapUpdate, build_struct T56 d56, z56, parts_eq, fillA, AV.cells, AH.splice, List.take_succ_cons, List.take_zero, List.drop_succ_cons, List.drop_zero, List.drop_nil, List.length_cons, List.length_nil, p56_0, p56_1, buildSl T50 d50 T56 (n := 1) (by rw [s56]; decide), s56, repl, run0_h, List.length_cons, List.length_nil, List.drop_zero, List.take_succ_cons, List.take_zero, Nat.zero_add, Nat.add_zero, e1, e2, e7, e9, e10, e12, d1, hlen, g1, g2, g3, y1, y3, c0, c3, c21, eq_true c51, hlk, u1, u3, (show ¬ (255 : Int) = 0 by decide), k1, gB2, m1, gB3, p1, gB4, hlt, ct, callV_fn (g := 21) (by decide), callV_fn (g := 22) (by decide), t1, c7]
              refine hnext (k - 1) _ _ (by omega) ⟨i + 1, off2, V2, sq2, v, now2, wv, J, by omega, ?_, ?_, ?_, ?_, ?_, ?_, ?_, ?_, ?_, ?_⟩
              · exact t2
              · exact t3
              · omega
              · simp only [put_ne, Nat.reduceEqDiff, not_false_eq_true, ne_eq, e1]
              · simp only [put_ne, Nat.reduceEqDiff, not_false_eq_true, ne_eq, e2]
              · simp only [put_ne, Nat.reduceEqDiff, not_false_eq_true, ne_eq, e7]
              · simp only [put_same, put_ne, Nat.reduceEqDiff, not_false_eq_true, ne_eq]
              · simp only [put_ne, Nat.reduceEqDiff, not_false_eq_true, Nat.succ_ne_self, ne_eq, e10]
              · simp only [put_ne, Nat.reduceEqDiff, not_false_eq_true, ne_eq, e11]
              · simp only [put_same]
          · obtain ⟨x, hx⟩ : ∃ x, tw[i]? = some x := ⟨tw[i]'(by omega), List.getElem?_eq_getElem (by omega)⟩
            have hxb := htw x (List.mem_of_getElem? hx)
            have hia2 : aIndexAddr T 48 VT (.int .i64 (i : Nat)) = some (.fp (.int .u8 x :: (bytes tw).drop (i + 1))) := by
              rw [hVT, ia_lst T48 d48 T5 s5, if_pos ⟨by omega, by omega⟩]
              simp only [Int.toNat_natCast, Nat.mul_one, Option.some.injEq, AV.fp.injEq]
              rw [List.drop_eq_getElem_cons (by simp [bytes]; omega)]
              simp [bytes, (List.getElem?_eq_some_iff.1 hx).2]
            have v1 : x.tmod 2 = x % 2 := Int.tmod_eq_emod_of_nonneg hxb.1
            have v2 : IntKind.u8.wrap (x % 2) = x % 2 := wrap_u8 (by omega) (by omega)
            by_cases co : x % 2 = 1
            · rcases c5 with c21 | c51
              · obtain ⟨v, h6, sq2, now2, t1, t2, t3⟩ := tail5 h32 h14 h22 4739 0 1 (i + 1) V2 off3 (setS sq a.cl N) nv2 wv (now ++ [⟨a.cl, a.da⟩]) J _ h5 W4 z3 z4 ⟨by omega, by omega⟩
                simp +contextual (maxSteps := 3000000) only [↓code_skip, ↓code_seq, ↓code_region, ↓code_cond, ↓code_block, aCond_bool, ↓ops_nil, ↓ops_cons, run_none, run_someT, ↓run0_v, ↓run0_h, ↓run0_r, ↓seqK_normal, ↓blkK_normal, put_same, put_ne, put_none, ev_tmp, ev_const, ev_func, oc_int, oc_bool, o_move, o_assign, o_pick, o_bin, o_call, o_len, o_alloc, o_build, o_buildSlice, o_load, o_store, o_un, o_fieldAddr, o_indexAddr, o_append, g_none, g_some, pick_bool, bin_add, bin_rem, bin_eql, bin_neq, bin_lss, un_not, Option.bind_some, Option.map_some, decide_eq_true_eq, ↓reduceIte, Nat.reduceEqDiff, not_false_eq_true, not_true_eq_false, Nat.reduceAdd, Nat.reduceMul, Nat.succ_ne_self, List.getElem?_cons_zero, List.getElem?_cons_succ, List.getElem?_toArray, Bool.false_eq_true, List.map_cons, List.map_nil, List.append_nil, List.nil_append, List.cons_append, and_true, Nat.reduceLeDiff, Nat.le_refl, Bool.not_eq_eq_eq_not, Bool.not_true, Bool.not_false, ne_eq, decide_eq_false_iff_not, load_fpA T53 a53, s53, alloc_t T53, z53, fa_ptr T53 p53_0 (by decide), load_p1 T3 a3, loadc_def, fa_ptr T53 p53_2 (by decide), o_lookup, fa_ptr T53 p53_4 (by decide), load_p1 T48 a48, fa_ptr T53 p53_5 (by decide), load_p1 T4 a4, o_mapUpdate, build_struct T56 d56, z56, parts_eq, fillA, AV.cells, AH.splice, List.take_succ_cons, List.take_zero, List.drop_succ_cons, List.drop_zero, List.drop_nil, List.length_cons, List.length_nil, p56_0, p56_1, buildSl T50 d50 T56 (n := 1) (by rw [s56]; decide), s56, repl, load_fp1 T5 a5, run0_h, List.length_cons, List.length_nil, List.drop_zero, List.take_succ_cons, List.take_zero, Nat.zero_add, Nat.add_zero, e1, e2, e7, e9, e10, e12, d1, hlen, g1, g2, g3, y1, y3, c0, c3, eq_true c21, hlk, u1, u3, (show ¬ (255 : Int) = 0 by decide), (show ¬ (2 : Int) = 0 by decide), k1, gB2, m1, gB3, p1, gB4, hlt, ct, hia2, v1, co, callV_fn (g := 21) (by decide), callV_fn (g := 22) (by decide), r1, gB5, t1, c7]
                refine hnext (k - 1) _ _ (by omega) ⟨i + 1, off3, V2, sq2, v, now2, wv, J, by omega, ?_, ?_, ?_, ?_, ?_, ?_, ?_, ?_, ?_, ?_⟩
                · exact t2
                · exact t3
                · omega
                · simp only [put_ne, Nat.reduceEqDiff, not_false_eq_true, ne_eq, e1]
                · simp only [put_ne, Nat.reduceEqDiff, not_false_eq_true, ne_eq, e2]
                · simp only [put_ne, Nat.reduceEqDiff, not_false_eq_true, ne_eq, e7]
                · simp only [put_same, put_ne, Nat.reduceEqDiff, not_false_eq_true, ne_eq]
                · simp only [put_ne, Nat.reduceEqDiff, not_false_eq_true, Nat.succ_ne_self, ne_eq, e10]
                · simp only [put_ne, Nat.reduceEqDiff, not_false_eq_true, ne_eq, e11]
                · simp only [put_same]
              · have c21 : ¬ a.dd = 2 := by omega
                obtain ⟨v, h6, sq2, now2, t1, t2, t3⟩ := tail5 h32 h14 h22 4739 0 1 (i + 1) V2 off3 (setS sq a.cl N) nv2 wv (now ++ [⟨a.cl, a.da⟩]) J _ h5 W4 z3 z4 ⟨by omega, by omega⟩
                simp +contextual (maxSteps := 3000000) only [↓code_skip, ↓code_seq, ↓code_region, ↓code_cond, ↓code_block, aCond_bool, ↓ops_nil, ↓ops_cons, run_none, run_someT, ↓run0_v, ↓run0_h, ↓run0_r, ↓seqK_normal, ↓blkK_normal, put_same, put_ne, put_none, ev_tmp, ev_const, ev_func, oc_int, oc_bool, o_move, o_assign, o_pick, o_bin, o_call, o_len, o_alloc, o_build, o_buildSlice, o_load, o_store, o_un, o_fieldAddr, o_indexAddr, o_append, g_none, g_some, pick_bool, bin_add, bin_rem, bin_eql, bin_neq, bin_lss, un_not, Option.bind_some, Option.map_some, decide_eq_true_eq, ↓reduceIte, Nat.reduceEqDiff, not_false_eq_true, not_true_eq_false, Nat.reduceAdd, Nat.reduceMul, Nat.succ_ne_self, List.getElem?_cons_zero, List.getElem?_cons_succ, List.getElem?_toArray, Bool.false_eq_true, List.map_cons, List.map_nil, List.append_nil, List.nil_append, List.cons_append, and_true, Nat.reduceLeDiff, Nat.le_refl, Bool.not_eq_eq_eq_not, Bool.not_true, Bool.not_false, ne_eq, decide_eq_false_iff_not, load_fpA T53 a53, s53, alloc_t T53, z53, fa_ptr T53 p53_0 (by decide), load_p1 T3 a3, loadc_def, fa_ptr T53 p53_2 (by decide), o_lookup, fa_ptr T53 p53_4 (by decide), load_p1 T48 a48, fa_ptr T53 p53_5 (by decide), load_p1 T4 a4, o_mapUpdate, build_struct T56 d56, z56, parts_eq, fillA, AV.cells, AH.splice, List.take_succ_cons, List.take_zero, List.drop_succ_cons, List.drop_zero, List.drop_nil, List.length_cons, List.length_nil, p56_0, p56_1, buildSl T50 d50 T56 (n := 1) (by rw [s56]; decide), s56, repl, load_fp1 T5 a5, run0_h, List.length_cons, List.length_nil, List.drop_zero, List.take_succ_cons, List.take_zero, Nat.zero_add, Nat.add_zero, e1, e2, e7, e9, e10, e12, d1, hlen, g1, g2, g3, y1, y3, c0, c3, c21, eq_true c51, hlk, u1, u3, (show ¬ (255 : Int) = 0 by decide), (show ¬ (2 : Int) = 0 by decide), k1, gB2, m1, gB3, p1, gB4, hlt, ct, hia2, v1, co, callV_fn (g := 21) (by decide), callV_fn (g := 22) (by decide), r1, gB5, t1, c7]
                refine hnext (k - 1) _ _ (by omega) ⟨i + 1, off3, V2, sq2, v, now2, wv, J, by omega, ?_, ?_, ?_, ?_, ?_, ?_, ?_, ?_, ?_, ?_⟩
                · exact t2
                · exact t3
                · omega
                · simp only [put_ne, Nat.reduceEqDiff, not_false_eq_true, ne_eq, e1]
                · simp only [put_ne, Nat.reduceEqDiff, not_false_eq_true, ne_eq, e2]
                · simp only [put_ne, Nat.reduceEqDiff, not_false_eq_true, ne_eq, e7]
                · simp only [put_same, put_ne, Nat.reduceEqDiff, not_false_eq_true, ne_eq]
                · simp only [put_ne, Nat.reduceEqDiff, not_false_eq_true, Nat.succ_ne_self, ne_eq, e10]
                · simp only [put_ne, Nat.reduceEqDiff, not_false_eq_true, ne_eq, e11]
                · simp only [put_same]
            · rcases c5 with c21 | c51
              · obtain ⟨v, h6, sq2, now2, t1, t2, t3⟩ := tail5 h32 h14 h22 4739 0 1 (i + 1) V2 off2 (setS sq a.cl N) nv2 wv (now ++ [⟨a.cl, a.da⟩]) J _ h4 W3 z3 z4 ⟨by omega, by omega⟩
                simp +contextual (maxSteps := 3000000) only [↓code_skip, ↓code_seq, ↓code_region, ↓code_cond, ↓code_block, aCond_bool, ↓ops_nil, ↓ops_cons, run_none, run_someT, ↓run0_v, ↓run0_h, ↓run0_r, ↓seqK_normal, ↓blkK_normal, put_same, put_ne, put_none, ev_tmp, ev_const, ev_func, oc_int, oc_bool, o_move, o_assign, o_pick, o_bin, o_call, o_len, o_alloc, o_build, o_buildSlice, o_load, o_store, o_un, o_fieldAddr, o_indexAddr, o_append, g_none, g_some, pick_bool, bin_add, bin_rem, bin_eql, bin_neq, bin_lss, Option.bind_some, Option.map_some, decide_eq_true_eq, ↓reduceIte, Nat.reduceEqDiff, not_false_eq_true, not_true_eq_false, Nat.reduceAdd, Nat.reduceMul, Nat.succ_ne_self, List.getElem?_cons_zero, List.getElem?_cons_succ, List.getElem?_toArray, Bool.false_eq_true, List.map_cons, List.map_nil, List.append_nil, List.nil_append, List.cons_append, and_true, Nat.reduceLeDiff, Nat.le_refl, Bool.not_eq_eq_eq_not, Bool.not_true, ne_eq, decide_eq_false_iff_not, load_fpA T53 a53, s53, alloc_t T53, z53, fa_ptr T53 p53_0 (by decide), load_p1 T3 a3, loadc_def, fa_ptr T53 p53_2 (by decide), o_lookup, fa_ptr T53 p53_4 (by decide), load_p1 T48 a48, fa_ptr T53 p53_5 (by decide), load_p1 T4 a4, o_mapUpdate, build_struct T56 d56, z56, parts_eq, fillA, AV.cells, AH.splice, List.take_succ_cons, List.take_zero, List.drop_succ_cons, List.drop_zero, List.drop_nil, List.length_cons, List.length_nil, p56_0, p56_1, buildSl T50 d50 T56 (n := 1) (by rw [s56]; decide), s56, repl, load_fp1 T5 a5, run0_h, List.length_cons, List.length_nil, List.drop_zero, List.take_succ_cons, List.take_zero, Nat.zero_add, Nat.add_zero, e1, e2, e7, e9, e10, e12, d1, hlen, g1, g2, g3, y1, y3, c0, c3, eq_true c21, hlk, u1, u3, (show ¬ (255 : Int) = 0 by decide), (show ¬ (2 : Int) = 0 by decide), k1, gB2, m1, gB3, p1, gB4, hlt, ct, hia2, v1, co, callV_fn (g := 21) (by decide), callV_fn (g := 22) (by decide), t1, c7]
                refine hnext (k - 1) _ _ (by omega) ⟨i + 1, off2, V2, sq2, v, now2, wv, J, by omega, ?_, ?_, ?_, ?_, ?_, ?_, ?_, ?_, ?_, ?_⟩
                · exact t2
                · exact t3
                · omega
                · simp only [put_ne, Nat.reduceEqDiff, not_false_eq_true, ne_eq, e1]
                · simp only [put_ne, Nat.reduceEqDiff, not_false_eq_true, ne_eq, e2]
                · simp only [put_ne, Nat.reduceEqDiff, not_false_eq_true, ne_eq, e7]
                · simp only [put_same, put_ne, Nat.reduceEqDiff, not_false_eq_true, ne_eq]
                · simp only [put_ne, Nat.reduceEqDiff, not_false_eq_true, Nat.succ_ne_self, ne_eq, e10]
                · simp only [put_ne, Nat.reduceEqDiff, not_false_eq_true, ne_eq, e11]
                · simp only [put_same]
              · have c21 : ¬ a.dd = 2 := by omega
                obtain ⟨v, h6, sq2, now2, t1, t2, t3⟩ := tail5 h32 h14 h22 4739 0 1 (i + 1) V2 off2 (setS sq a.cl N) nv2 wv (now ++ [⟨a.cl, a.da⟩]) J _ h4 W3 z3 z4 ⟨by omega, by omega⟩
                simp +contextual (maxSteps := 3000000) only [↓code_skip, ↓code_seq, ↓code_region, ↓code_cond, ↓code_block, aCond_bool, ↓ops_nil, ↓ops_cons, run_none, run_someT, ↓run0_v, ↓run0_h, ↓run0_r, ↓seqK_normal, ↓blkK_normal, put_same, put_ne, put_none, ev_tmp, ev_const, ev_func, oc_int, oc_bool, o_move, o_assign, o_pick, o_bin, o_call, o_len, o_alloc, o_build, o_buildSlice, o_load, o_store, o_un, o_fieldAddr, o_indexAddr, o_append, g_none, g_some, pick_bool, bin_add, bin_rem, bin_eql, bin_neq, bin_lss, Option.bind_some, Option.map_some, decide_eq_true_eq, ↓reduceIte, Nat.reduceEqDiff, not_false_eq_true, not_true_eq_false, Nat.reduceAdd, Nat.reduceMul, Nat.succ_ne_self, List.getElem?_cons_zero, List.getElem?_cons_succ, List.getElem?_toArray, Bool.false_eq_true, List.map_cons, List.map_nil, List.append_nil, List.nil_append, List.cons_append, and_true, Nat.reduceLeDiff, Nat.le_refl, Bool.not_eq_eq_eq_not, Bool.not_true, ne_eq, decide_eq_false_iff_not, load_fpA T53 a53, s53, alloc_t T53, z53, fa_ptr T53 p53_0 (by decide), load_p1 T3 a3, loadc_def, fa_ptr T53 p53_2 (by decide), o_lookup, fa_ptr T53 p53_4 (by decide), load_p1 T48 a48, fa_ptr T53 p53_5 (by decide), load_p1 T4 a4, o_mapUpdate, build_struct T56 d56, z56, parts_eq, fillA, AV.cells, AH.splice, List.take_succ_cons, List.take_zero, List.drop_succ_cons, List.drop_zero, List.drop_nil, List.length_cons, List.length_nil, p56_0, p56_1, buildSl T50 d50 T56 (n := 1) (by rw [s56]; decide), s56, repl, load_fp1 T5 a5, run0_h, List.length_cons, List.length_nil, List.drop_zero, List.take_succ_cons, List.take_zero, Nat.zero_add, Nat.add_zero, e1, e2, e7, e9, e10, e12, d1, hlen, g1, g2, g3, y1, y3, c0, c3, c21, eq_true c51, hlk, u1, u3, (show ¬ (255 : Int) = 0 by decide), (show ¬ (2 : Int) = 0 by decide), k1, gB2, m1, gB3, p1, gB4, hlt, ct, hia2, v1, co, callV_fn (g := 21) (by decide), callV_fn (g := 22) (by decide), t1, c7]
                refine hnext (k - 1) _ _ (by omega) ⟨i + 1, off2, V2, sq2, v, now2, wv, J, by omega, ?_, ?_, ?_, ?_, ?_, ?_, ?_, ?_, ?_, ?_⟩
                · exact t2
                · exact t3
                · omega
                · simp only [put_ne, Nat.reduceEqDiff, not_false_eq_true, ne_eq, e1]
                · simp only [put_ne, Nat.reduceEqDiff, not_false_eq_true, ne_eq, e2]
                · simp only [put_ne, Nat.reduceEqDiff, not_false_eq_true, ne_eq, e7]
                · simp only [put_same, put_ne, Nat.reduceEqDiff, not_false_eq_true, ne_eq]
                · simp only [put_ne, Nat.reduceEqDiff, not_false_eq_true, Nat.succ_ne_self, ne_eq, e10]
                · simp only [put_ne, Nat.reduceEqDiff, not_false_eq_true, ne_eq, e11]
                · simp only [put_same]
    · have d1 : ¬ (i : Int) < (l.length : Int) := by omega
      have hjl : V.js.length ≤ 250 := by have := hK.jl; omega
      obtain ⟨v, J2, h2, q1, q2, q3, q4⟩ := V24 h32 h45 h24 4799 0 V off h' hW.v (by rw [hK.q]; decide) ⟨by omega, by omega⟩ hK.jd
      have hJl : J2.length ≤ 250 := by have := congrArg List.length q3; rw [List.length_map] at this; omega
      have k23 := run23 h23 4979 v wv J2 J _ _ h2 q2 (hW.w.grow q4) (q3.trans hK.js) ⟨by omega, by omega⟩
      simp +contextual (maxSteps := 3000000) only [↓code_seq, ↓code_region, ↓code_cond, ↓code_exit, aCond_bool, ↓ops_nil, ↓ops_cons, run_none, ↓run0_v, ↓seqK_normal, ↓seqK_exit, put_same, put_ne, ev_tmp, o_move, o_bin, o_len, g_none, bin_lss, decide_eq_true_eq, ↓reduceIte, Nat.reduceEqDiff, not_false_eq_true, ne_eq, e1, e12, d1, hlen]
      refine hexit _ _ _ (by simp) ?_
      simp +contextual (maxSteps := 3000000) only [↓code_seq, ↓code_region, ↓code_ret, ↓ops_nil, ↓ops_cons, run_none, run_someT, ↓run0_v, ↓run0_r, ↓seqK_normal, ↓blkK_exit, ↓retK_ret, put_same, put_ne, ev_tmp, ev_const, ev_func, oc_bool, o_move, o_assign, o_pick, o_call, g_none, g_some, pick_bool, resultsOf, oneOrAll, Option.bind_some, Option.map_some, ↓reduceIte, Nat.reduceEqDiff, not_false_eq_true, List.getElem?_cons_zero, List.getElem?_cons_succ, List.getElem?_toArray, List.map_cons, List.map_nil, List.append_nil, List.nil_append, ne_eq, K11 h11, e7, e11, q1, k23, callV_fn (g := 24) (by decide), callV_fn (g := 23) (by decide), callV_fn (g := 11) (by decide)]
      exact ⟨_, rfl⟩
  · refine ⟨0, off0, ⟨20, 1 + room % 5, 0, [], [], []⟩, fun _ => 0, .nils, [], .nils, [], by omega, ?_, ?_, ?_, ?_, ?_, ?_, ?_, ?_, ?_, ?_⟩
    · (rw [← hhA]; exact hW0)
    · exact hK0
    · omega
    · simp only [put_ne, env0_at, Option.getD_some, Nat.reduceEqDiff, not_false_eq_true, List.getElem?_cons_zero, List.getElem?_cons_succ, ne_eq]
    · simp only [put_ne, env0_at, Option.getD_some, Nat.reduceEqDiff, not_false_eq_true, List.getElem?_cons_zero, List.getElem?_cons_succ, ne_eq]
    · simp only [put_same, put_ne, Nat.reduceEqDiff, not_false_eq_true, ne_eq]
    · simp only [put_same, put_ne, Nat.reduceEqDiff, not_false_eq_true, ne_eq]
    · simp only [put_same, put_ne, Nat.reduceEqDiff, not_false_eq_true, ne_eq]
    · simp only [put_same, put_ne, Nat.reduceEqDiff, not_false_eq_true, ne_eq]
    · simp only [put_same]; rfl
end Go.AM.X
namespace Go.AM.X
open Go Go.AM Go.Proofs Go.AM.Sx
theorem lawWh (room : Int) (hr0 : 0 ≤ room ∧ room ≤ 255) (l : List At) (tw : List Int) (htw : ∀ x ∈ tw, 0 ≤ x ∧ x ≤ 255) :
    ∃ h', call F I1 T 5000 5 [.int .u8 room, .lst false 6 l.length (fl At.av l), .lst false 1 tw.length (bytes tw)] e0 = some (.bool true, h') :=
  law5 rfl rfl rfl rfl rfl rfl rfl rfl rfl rfl rfl rfl rfl rfl rfl rfl rfl rfl rfl rfl rfl rfl rfl rfl rfl rfl rfl rfl room hr0 l tw htw
end Go.AM.X
