/- The document's printer: jobs and the queue. Own work. -/
import Derived.Test.YtleefbnanliliaaDoorPpgM
namespace Go.AM.X
open Go Go.AM Go.Proofs Go.AM.Sx
set_option maxHeartbeats 1600000
set_option maxRecDepth 100000
set_option linter.unusedVariables false
theorem L50 {I : Nat → Option (List AV → AH → Rs)} (h64 : I 64 = none) (h50 : I 50 = none) (m p : Nat) (Q : Tp) (off : Nat → Prop) (h : AH) (hQ : OkT h p Q off) (hl : Q.ws.length ≤ 200 ∧ Q.ss.length ≤ 200) (hr : 0 ≤ Q.r ∧ Q.r ≤ 20) (hwb : ∀ w ∈ Q.ws, 0 ≤ w.w ∧ w.w ≤ 1000000000) (hsb : ∀ s ∈ Q.ss, 0 ≤ s.s ∧ s.s ≤ 1000000000) :
    ∃ h2 off2, call F I T (m + 400) 50 [.ptr p 0] h = some (.int .i64 0, h2) ∧ OkT h2 p (tickT Q) off2 ∧ Stf h h2 off off2 := by
  obtain ⟨R, hR, rfl, rfl⟩ := hQ
  obtain ⟨R2, h2, k1, k2, k3, k4, k5⟩ := run50 h64 h50 m p R h hR ⟨hl.1, by have := hl.2; rw [show (tp R).ss = R.ss.map tc from rfl, List.length_map] at this; exact this⟩ hr hwb (fun s hs => hsb (tc s) (List.mem_map_of_mem hs))
  exact ⟨h2, _, k1, ⟨R2, k2, k3.symm, rfl⟩, stfF k4 k5⟩
theorem rowGe {sz n : Nat} {h : AH} {v : AV} {cs : List AV} (hr : RowC sz h v n cs) {c : Nat} (hc : h.next ≤ c) : offRow v c := fun b o l k z x e => by have := hr.lt e; omega
theorem dat_src {h : AH} {v : AV} {bs : List Int} (hd : Dat h v bs) : aSource 1 v h = some (bs.length, bytes bs) := by
  rcases hd with ⟨rfl, h0, h1⟩ | ⟨b, cap, ex, rest, rfl, h1, h2, h3, h4⟩
  · have : bs = [] := List.length_eq_zero_iff.1 h0
    subst this
    simp [aSource, bytes]
  · rw [src_sl]
    simp only [AH.loadn, h4]
    rw [if_pos (by rw [List.length_append, List.length_map]; omega), Nat.mul_one, List.drop_zero, List.take_append_of_le_length (by rw [List.length_map]; omega), List.take_of_length_le (by rw [List.length_map]; omega)]
    rfl
theorem pushJ {h H1 : AH} {v : AV} {l : List Jb} {off : Nat → Prop} (hv : ImG h off v l.length (jcs l)) (hg : Grow h H1) (j : Jb) (hj : j.d.one = true) (hl : l.length ≤ 1000000) :
    ∃ v' h2, aAppend T 51 51 (cutX v) (.sl H1.next 0 1 1 2 true) (H1.alloc (.cells [.int .i64 j.c, j.d] .own)) = some (v', h2) ∧ RowC 2 h2 v' (l ++ [j]).length (jcs (l ++ [j])) ∧ (∀ b o l k z x, v' = .sl b o l k z x → H1.next ≤ b) ∧ Grow H1 h2 := by
  obtain ⟨v', h2, q1, q2, q3, q4⟩ := (hv.1.grow hg).pushX (new := [.int .i64 j.c, j.d]) T51 d51 T58 s58 (by decide) (by rw [b58]; decide) rfl (by simp only [List.all_cons, List.all_nil, hj]; rfl) (by rw [b58]; simp [maxBytes]; omega)
  refine ⟨v', h2, q1, ?_, q3, q4⟩
  rw [jcs_app, List.length_append]; exact q2
/-- One more job. -/
theorem OkR.addJ {h H1 : AH} {p : Nat} {R : Rf} (hR : OkR h p R) (hg : Grow h H1) (j : Jb) (hj : ImD h (R.off p) j.d j.bs) (hjm : j.d ∈ R.im) (hl : R.js.length ≤ 1000000) :
    ∃ v' h2, aAppend T 51 51 (cutX R.jv) (.sl H1.next 0 1 1 2 true) (H1.alloc (.cells [.int .i64 j.c, j.d] .own)) = some (v', h2) ∧ aStore T 51 (.ptr p 4) v' h2 = some (h2.put p (.cells ({ R with jv := v', js := R.js ++ [j] } : Rf).cs .own)) ∧
      OkR (h2.put p (.cells ({ R with jv := v', js := R.js ++ [j] } : Rf).cs .own)) p { R with jv := v', js := R.js ++ [j] } ∧ Stf h (h2.put p (.cells ({ R with jv := v', js := R.js ++ [j] } : Rf).cs .own)) (R.off p) (R.off p) ∧ Grow H1 h2 ∧ Ext h R { R with jv := v', js := R.js ++ [j] } := by
  obtain ⟨v', h2, q1, q2, q3, q4⟩ := pushJ hR.j hg j (RowC.cells hj.1).2 hl
  have hlt := hR.lt
  have hgn := hg.1
  have hg2 := hg.trans q4
  have hp2 : h2.get p = some (.cells R.cs .own) := by rw [hg2.2 p hlt]; exact hR.g
  have hS : Stf h (h2.put p (.cells ({ R with jv := v', js := R.js ++ [j] } : Rf).cs .own)) (R.off p) (R.off p) := ⟨hg2.1, fun c hc ho => ⟨by rw [AH.get_put, if_neg ho.1, hg2.2 c hc], ho⟩⟩
  have hR2 := hR.grow hg2
  refine ⟨v', h2, q1, store_1 (cs := R.cs) T51 s51 (RowC.cells q2).1 (RowC.cells q2).2 hp2 (by simp [Rf.cs]), { g := by rw [AH.get_put, if_pos rfl], lt := hR2.lt, s := hR2.s.keep (Nat.le_refl _) fun b o l k z x e => (by rw [AH.get_put, if_neg (fun g => hR.sp _ _ _ _ _ _ e g.symm)]), w := hR2.w.keep (Nat.le_refl _) fun b o l k z x e => (by rw [AH.get_put, if_neg (fun g => hR.wp _ _ _ _ _ _ e g.symm)]), sp := hR.sp, wp := hR.wp, sw := hR.sw, j := ⟨RowG.keep (q2.toG (by decide)) (Nat.le_refl _) fun b o l k z x e => ?_, fun b o l k z x e => ?_⟩, u := hR.u.stf hS, jd := fun i hi => ?_, ud := fun i hi => (hR.ud i hi).stf hS, sd := fun c hc => ⟨(hR.sd c hc).1.stf hS, (hR.sd c hc).2⟩, wd := hR.wd }, hS, q4, fun v hv b o l k z x e => ?_⟩
  · have := q3 _ _ _ _ _ _ e
    rw [AH.get_put, if_neg (by omega)]
  · have := q3 _ _ _ _ _ _ e
    exact ⟨by omega, rowGe hR.s (by omega), rowGe hR.w (by omega)⟩
  · rcases List.mem_append.1 hi with g | g
    · exact (hR.jd i g).stf hS
    · rw [List.mem_singleton.1 g]; exact hj.stf hS
  · simp only [Rf.im, List.map_append, List.map_cons, List.map_nil, List.mem_cons, List.mem_append, List.not_mem_nil, or_false] at hv
    rcases hv with g | g | (g | g) | g | g
    · exact .inl (by rw [g] at e; have := q3 _ _ _ _ _ _ e; omega)
    · exact .inr ⟨v, by simp only [Rf.im, List.mem_cons, List.mem_append]; exact .inr (.inl g), _, _, _, _, _, e⟩
    · exact .inr ⟨v, by simp only [Rf.im, List.mem_cons, List.mem_append]; exact .inr (.inr (.inl g)), _, _, _, _, _, e⟩
    · exact .inr ⟨v, by rw [g]; exact hjm, _, _, _, _, _, e⟩
    · exact .inr ⟨v, by simp only [Rf.im, List.mem_cons, List.mem_append]; exact .inr (.inr (.inr (.inl g))), _, _, _, _, _, e⟩
    · exact .inr ⟨v, by simp only [Rf.im, List.mem_cons, List.mem_append]; exact .inr (.inr (.inr (.inr g))), _, _, _, _, _, e⟩
/-- One more in the queue. -/
theorem OkR.addQ {h H1 : AH} {p : Nat} {R : Rf} (hR : OkR h p R) (hg : Grow h H1) (j : Jb) (hj : ImD h (R.off p) j.d j.bs) (hjm : j.d ∈ R.im) (hl : R.qs.length ≤ 1000000) :
    ∃ v' h2, aAppend T 51 51 (cutX R.qv) (.sl H1.next 0 1 1 2 true) (H1.alloc (.cells [.int .i64 j.c, j.d] .own)) = some (v', h2) ∧ aStore T 51 (.ptr p 5) v' h2 = some (h2.put p (.cells ({ R with qv := v', qs := R.qs ++ [j] } : Rf).cs .own)) ∧
      OkR (h2.put p (.cells ({ R with qv := v', qs := R.qs ++ [j] } : Rf).cs .own)) p { R with qv := v', qs := R.qs ++ [j] } ∧ Stf h (h2.put p (.cells ({ R with qv := v', qs := R.qs ++ [j] } : Rf).cs .own)) (R.off p) (R.off p) ∧ Grow H1 h2 ∧ Ext h R { R with qv := v', qs := R.qs ++ [j] } := by
  obtain ⟨v', h2, q1, q2, q3, q4⟩ := pushJ hR.u hg j (RowC.cells hj.1).2 hl
  have hlt := hR.lt
  have hgn := hg.1
  have hg2 := hg.trans q4
  have hp2 : h2.get p = some (.cells R.cs .own) := by rw [hg2.2 p hlt]; exact hR.g
  have hS : Stf h (h2.put p (.cells ({ R with qv := v', qs := R.qs ++ [j] } : Rf).cs .own)) (R.off p) (R.off p) := ⟨hg2.1, fun c hc ho => ⟨by rw [AH.get_put, if_neg ho.1, hg2.2 c hc], ho⟩⟩
  have hR2 := hR.grow hg2
  refine ⟨v', h2, q1, store_1 (cs := R.cs) T51 s51 (RowC.cells q2).1 (RowC.cells q2).2 hp2 (by simp [Rf.cs]), { g := by rw [AH.get_put, if_pos rfl], lt := hR2.lt, s := hR2.s.keep (Nat.le_refl _) fun b o l k z x e => (by rw [AH.get_put, if_neg (fun g => hR.sp _ _ _ _ _ _ e g.symm)]), w := hR2.w.keep (Nat.le_refl _) fun b o l k z x e => (by rw [AH.get_put, if_neg (fun g => hR.wp _ _ _ _ _ _ e g.symm)]), sp := hR.sp, wp := hR.wp, sw := hR.sw, u := ⟨RowG.keep (q2.toG (by decide)) (Nat.le_refl _) fun b o l k z x e => ?_, fun b o l k z x e => ?_⟩, j := hR.j.stf hS, ud := fun i hi => ?_, jd := fun i hi => (hR.jd i hi).stf hS, sd := fun c hc => ⟨(hR.sd c hc).1.stf hS, (hR.sd c hc).2⟩, wd := hR.wd }, hS, q4, fun v hv b o l k z x e => ?_⟩
  · have := q3 _ _ _ _ _ _ e
    rw [AH.get_put, if_neg (by omega)]
  · have := q3 _ _ _ _ _ _ e
    exact ⟨by omega, rowGe hR.s (by omega), rowGe hR.w (by omega)⟩
  · rcases List.mem_append.1 hi with g | g
    · exact (hR.ud i g).stf hS
    · rw [List.mem_singleton.1 g]; exact hj.stf hS
  · simp only [Rf.im, List.map_append, List.map_cons, List.map_nil, List.mem_cons, List.mem_append, List.not_mem_nil, or_false] at hv
    rcases hv with g | g | g | (g | g) | g
    · exact .inr ⟨v, by simp only [Rf.im, List.mem_cons, List.mem_append]; exact .inl g, _, _, _, _, _, e⟩
    · exact .inl (by rw [g] at e; have := q3 _ _ _ _ _ _ e; omega)
    · exact .inr ⟨v, by simp only [Rf.im, List.mem_cons, List.mem_append]; exact .inr (.inr (.inl g)), _, _, _, _, _, e⟩
    · exact .inr ⟨v, by simp only [Rf.im, List.mem_cons, List.mem_append]; exact .inr (.inr (.inr (.inl g))), _, _, _, _, _, e⟩
    · exact .inr ⟨v, by rw [g]; exact hjm, _, _, _, _, _, e⟩
    · exact .inr ⟨v, by simp only [Rf.im, List.mem_cons, List.mem_append]; exact .inr (.inr (.inr (.inr g))), _, _, _, _, _, e⟩
/-- The queue's first job has left. -/
theorem OkR.tailQ {h : AH} {p : Nat} {R : Rf} {j : Jb} {l : List Jb} (hR : OkR h p R) (hq : R.qs = j :: l) :
    ∃ v', aSlice T 51 R.qv (some (.int .i64 1)) none none = some v' ∧ (v'.cells = some [v'] ∧ v'.one = true) ∧ OkR (h.put p (.cells ({ R with qv := v', qs := l } : Rf).cs .own)) p { R with qv := v', qs := l } ∧ Stf h (h.put p (.cells ({ R with qv := v', qs := l } : Rf).cs .own)) (R.off p) (R.off p) ∧ Ext h R { R with qv := v', qs := l } := by
  have hu := hR.u
  rw [hq] at hu
  obtain ⟨v', q1, q2, q3⟩ := hu.1.tail T51 d51 T58 s58
  have hS : Stf h (h.put p (.cells ({ R with qv := v', qs := l } : Rf).cs .own)) (R.off p) (R.off p) := ⟨Nat.le_refl _, fun c hc ho => ⟨by rw [AH.get_put, if_neg ho.1], ho⟩⟩
  have hvo : ∀ b o l k z x, v' = .sl b o l k z x → R.off p b := fun b o l k z x e => by
    obtain ⟨_, _, _, _, _, g⟩ := q3 _ _ _ _ _ _ e
    exact hu.2 _ _ _ _ _ _ g
  refine ⟨v', q1, q2.cells, { g := by rw [AH.get_put, if_pos rfl], lt := hR.lt, s := hR.s.keep (Nat.le_refl _) fun b o l k z x e => (by rw [AH.get_put, if_neg (fun g => hR.sp _ _ _ _ _ _ e g.symm)]), w := hR.w.keep (Nat.le_refl _) fun b o l k z x e => (by rw [AH.get_put, if_neg (fun g => hR.wp _ _ _ _ _ _ e g.symm)]), sp := hR.sp, wp := hR.wp, sw := hR.sw, j := hR.j.stf hS, u := ImG.stf ⟨q2, hvo⟩ hS, jd := fun i hi => (hR.jd i hi).stf hS, ud := fun i hi => (hR.ud i (by rw [hq]; exact List.mem_cons_of_mem _ hi)).stf hS, sd := fun c hc => ⟨(hR.sd c hc).1.stf hS, (hR.sd c hc).2⟩, wd := hR.wd }, hS, fun v hv b o l' k z x e => ?_⟩
  simp only [Rf.im, List.mem_cons, List.mem_append] at hv
  rcases hv with g | g | g | g | g
  · exact .inr ⟨v, by simp only [Rf.im, List.mem_cons, List.mem_append]; exact .inl g, _, _, _, _, _, e⟩
  · rw [g] at e
    obtain ⟨_, _, _, _, _, e2⟩ := q3 _ _ _ _ _ _ e
    exact .inr ⟨R.qv, by simp [Rf.im], _, _, _, _, _, e2⟩
  · exact .inr ⟨v, by simp only [Rf.im, List.mem_cons, List.mem_append]; exact .inr (.inr (.inl g)), _, _, _, _, _, e⟩
  · exact .inr ⟨v, by simp only [Rf.im, List.mem_cons, List.mem_append, hq, List.map_cons]; exact .inr (.inr (.inr (.inl (.inr g)))), _, _, _, _, _, e⟩
  · exact .inr ⟨v, by simp only [Rf.im, List.mem_cons, List.mem_append]; exact .inr (.inr (.inr (.inr g))), _, _, _, _, _, e⟩
end Go.AM.X
namespace Go.AM.X
open Go Go.AM Go.Proofs Go.AM.Sx
set_option maxHeartbeats 3200000
set_option maxRecDepth 100000
set_option linter.unusedVariables false
theorem F65 : F 65 = some { body := (Tryd.f65.body.getD .skip), results := Tryd.f65.results.toList, rf := false } := by kernel_rfl
theorem R65 : regsOk T (Tryd.f65.body.getD .skip) = true := by kernel_rfl
def befT (n : Int) : Int := if n - 1 = 0 then 255 else n - 1
def sendT (Q : Tp) (c : Int) (i : Nat) (n : Int) (new : List Int) (en : Bool) : Int × Tp :=
  match Q.ss[i]? with
  | none => (0, Q)
  | some s =>
    if n = befT s.n ∧ s.k = true then (0, { Q with ss := Q.ss.set i { s with s := 0 } })
    else if ¬ n = s.n then (90, Q)
    else if 5000 < s.d.length + new.length then (4, { Q with ss := Q.ss.eraseIdx i })
    else if en = true then (0, { Q with ss := Q.ss.eraseIdx i, js := Q.js ++ [(c, s.d ++ new)], qs := if 0 < Q.r then Q.qs ++ [(c, s.d ++ new)] else Q.qs })
    else (0, { Q with ss := Q.ss.set i { s with d := s.d ++ new, k := true, s := 0, n := s.n % 255 + 1 } })
def barT (Q : Tp) (n : Int) (k : Nat) (en : Bool) : Bool := decide (Q.q < (k : Int)) || (decide (k = 0) && !en) || decide (n < 1) || decide (255 < n)
def SendT (Q : Tp) (c n : Int) (new : List Int) (en : Bool) : Int × Tp := match inS Q.ss c with
  | none => (5, Q)
  | some i => if barT Q n new.length en = true then (2, Q) else sendT Q c i n new en
theorem erase_set {α : Type} : ∀ (l : List α) (i : Nat) (x : α), (l.set i x).eraseIdx i = l.eraseIdx i
  | [], i, x => by simp
  | a :: l, 0, x => by simp
  | a :: l, i + 1, x => by simp [erase_set l i x]
def newX (x : Rc) (v : AV) (new : List Int) : Rc := { x with dv := v, d := x.d ++ new, tk := true, si := 0, nx := x.nx % 255 + 1 }
/-- A client has the piece behind its data. -/
theorem OkR.piece {h : AH} {p i : Nat} {R : Rf} {c : Rc} {x : AV} {new : List Int} (hR : OkR h p R) (hc : R.ss[i]? = some c) (hx : Pc (R.off p) h x new) (hl : c.d.length + new.length ≤ 5000) :
    ∃ b v1 h1 v2 h2 hA hB hC hD, aIndexAddr T 101 R.sv (.int .i64 (i : Nat)) = some (.ptr b (i * 7)) ∧ aAppend T 48 48 (.sl h.next 0 0 0 1 true) c.dv (h.alloc (.cells [] .own)) = some (v1, h1) ∧ aAppend T 48 48 v1 x h1 = some (v2, h2) ∧
      aStore T 48 (.ptr b (i * 7 + 5)) v2 h2 = some hA ∧ aStore T 4 (.ptr b (i * 7 + 4)) (.bool true) hA = some hB ∧ aStore T 3 (.ptr b (i * 7 + 2)) (.int .i64 0) hB = some hC ∧ aStore T 3 (.ptr b (i * 7 + 3)) (.int .i64 (c.nx % 255 + 1)) hC = some hD ∧
      (∃ csA kA, hA.get b = some (.cells csA kA) ∧ csA[i * 7 + 3]? = some (.int .i64 c.nx)) ∧ (∃ csD kD, hD.get b = some (.cells csD kD) ∧ csD[i * 7 + 5]? = some v2) ∧
      OkR hD p { R with ss := R.ss.set i (newX c v2 new) } ∧ Stf h hD (R.off p) (R.off p) ∧ ImD hD (R.off p) v2 (c.d ++ new) ∧ Ext h R { R with ss := R.ss.set i (newX c v2 new) } ∧ v2 ∈ ({ R with ss := R.ss.set i (newX c v2 new) } : Rf).im := by
  have hcm := List.mem_of_getElem? hc
  obtain ⟨hcd, hcb⟩ := hR.sd c hcm
  obtain ⟨H1, hH1⟩ : ∃ H1, H1 = h.alloc (.cells [] .own) := ⟨_, rfl⟩
  have n1 : H1.next = h.next + 1 := by rw [hH1]; rfl
  have g1 : Grow h H1 := by rw [hH1]; exact Grow.alloc _ _
  have r1 : RowC 1 H1 (.sl h.next 0 0 0 1 true) 0 [] := .inr ⟨h.next, 0, true, [], rfl, rfl, rfl, by omega, by rw [hH1, AH.get_alloc, if_pos rfl]; rfl⟩
  obtain ⟨v1, h1, q1, q2, q3, q4, q5⟩ := r1.app' (x := c.dv) (new := bytes c.d) (m := c.d.length) (xt := 48) T48 d48 T5 (isSrc_sl T48 d48) s5 (by decide) (by rw [b5]; decide) (by rw [s5]; exact dat_src (hcd.1.grow g1)) (by simp [bytes]) (by simp [bytes, AV.one]) (by rw [b5]; simp [maxBytes]; omega)
  have f1 : ∀ b o l k z x, v1 = .sl b o l k z x → h.next ≤ b := fun b o l k z x e => by
    rcases q5 _ _ _ _ _ _ e with g | ⟨_, _, _, _, _, g⟩
    · omega
    · cases g; exact Nat.le_refl _
  have gr1 : Grow h h1 := ⟨by omega, fun y hy => by rw [q4 y (by omega) (fun b o l k z x e => by cases e; omega), g1.2 y hy]⟩
  obtain ⟨v2, h2, t1, t2, t3, t4, t5⟩ := q2.app' (x := x) (new := bytes new) (m := new.length) (xt := 48) T48 d48 T5 (isSrc_sl T48 d48) s5 (by decide) (by rw [b5]; decide) (by rw [s5]; exact hx.2 h1 gr1.1 fun y hy _ => gr1.2 y hy) (by simp [bytes]) (by simp [bytes, AV.one]) (by rw [b5]; simp [maxBytes]; omega)
  have f2 : ∀ b o l k z x, v2 = .sl b o l k z x → h.next ≤ b := fun b o l k z x e => by
    rcases t5 _ _ _ _ _ _ e with g | ⟨_, _, _, _, _, g⟩
    · omega
    · exact f1 _ _ _ _ _ _ g
  have gr2 : Grow h h2 := ⟨by omega, fun y hy => by rw [t4 y (by omega) (fun b o l k z x e => by have := f1 _ _ _ _ _ _ e; omega), gr1.2 y hy]⟩
  have hd2 : Dat h2 v2 (c.d ++ new) := by
    show RowC 1 h2 v2 (c.d ++ new).length (bytes (c.d ++ new))
    have e : bytes (c.d ++ new) = [] ++ bytes c.d ++ bytes new := by unfold bytes; rw [List.map_append]; rfl
    rw [e, List.length_append, show c.d.length + new.length = 0 + c.d.length + new.length by omega]; exact t2
  have hv2 := RowC.cells hd2
  have hi := (List.getElem?_eq_some_iff.1 hc).1
  obtain ⟨b, hA, y1, y2, y3, y4, y5, y6⟩ := storeC Rc.av 7 Rc.len T101 d101 T106 s106 (w := v2) (j := 5) (y := { c with dv := v2, d := c.d ++ new }) T48 s48 (hR.s.grow gr2) hc (by decide) rfl hv2.1 hv2.2
  have e1 : (R.ss.set i { c with dv := v2, d := c.d ++ new })[i]? = some { c with dv := v2, d := c.d ++ new } := List.getElem?_set_self hi
  have L : ∀ (l : List Rc), l.length = R.ss.length → R.ss.length = l.length := fun l h => h.symm
  have y3' : RowC 7 hA R.sv (R.ss.set i { c with dv := v2, d := c.d ++ new }).length (rcs (R.ss.set i { c with dv := v2, d := c.d ++ new })) := by rw [List.length_set]; exact y3
  obtain ⟨bA, csA, kA, a1, a2, _, _, _, _, _, _, a7, _⟩ := loadC y3' e1
  obtain ⟨b2, hB, z1, z2, z3, z4, z5, _⟩ := storeC Rc.av 7 Rc.len T101 d101 T106 s106 (w := .bool true) (j := 4) (y := { c with dv := v2, d := c.d ++ new, tk := true }) T4 s4 y3' e1 (by decide) rfl rfl rfl
  rw [List.set_set] at z3
  have e2 : (R.ss.set i { c with dv := v2, d := c.d ++ new, tk := true })[i]? = some { c with dv := v2, d := c.d ++ new, tk := true } := List.getElem?_set_self hi
  have z3' : RowC 7 hB R.sv (R.ss.set i { c with dv := v2, d := c.d ++ new, tk := true }).length (rcs (R.ss.set i { c with dv := v2, d := c.d ++ new, tk := true })) := by rw [List.length_set] at z3 ⊢; exact z3
  obtain ⟨b3, hC, w1, w2, w3, w4, w5, _⟩ := storeC Rc.av 7 Rc.len T101 d101 T106 s106 (w := .int .i64 0) (j := 2) (y := { c with dv := v2, d := c.d ++ new, tk := true, si := 0 }) T3 s3 z3' e2 (by decide) rfl rfl rfl
  rw [List.set_set] at w3
  have e3 : (R.ss.set i { c with dv := v2, d := c.d ++ new, tk := true, si := 0 })[i]? = some { c with dv := v2, d := c.d ++ new, tk := true, si := 0 } := List.getElem?_set_self hi
  have w3' : RowC 7 hC R.sv (R.ss.set i { c with dv := v2, d := c.d ++ new, tk := true, si := 0 }).length (rcs (R.ss.set i { c with dv := v2, d := c.d ++ new, tk := true, si := 0 })) := by rw [List.length_set] at w3 ⊢; exact w3
  obtain ⟨b4, hD, x1, x2, x3, x4, x5, _⟩ := storeC Rc.av 7 Rc.len T101 d101 T106 s106 (w := .int .i64 (c.nx % 255 + 1)) (j := 3) (y := newX c v2 new) T3 s3 w3' e3 (by decide) rfl rfl rfl
  rw [List.set_set] at x3
  have x3' : RowC 7 hD R.sv (R.ss.set i (newX c v2 new)).length (rcs (R.ss.set i (newX c v2 new))) := by rw [List.length_set] at x3 ⊢; exact x3
  have e4 : (R.ss.set i (newX c v2 new))[i]? = some (newX c v2 new) := List.getElem?_set_self hi
  obtain ⟨bD, csD, kD, d1, d2, _, _, _, _, _, _, _, _, d9, _⟩ := loadC x3' e4
  rw [ind_eq z1 y1] at z2
  rw [ind_eq w1 y1] at w2
  rw [ind_eq x1 y1] at x2
  rw [ind_eq a1 y1] at a2
  rw [ind_eq d1 y1] at d2
  have hnx : hD.next = h2.next := by rw [x4, w4, z4, y4]
  have hkD : ∀ y, offRow R.sv y → hD.get y = h2.get y := fun y hy => by rw [x5 y hy, w5 y hy, z5 y hy, y5 y hy]
  have hoff2 : ∀ b o l k z x, v2 = .sl b o l k z x → R.off p b := fun b o l k z x e => by
    have g := f2 _ _ _ _ _ _ e
    have := hR.lt
    exact ⟨by omega, rowGe hR.s g, rowGe hR.w g⟩
  have him : ImD hD (R.off p) v2 (c.d ++ new) := ⟨hd2.keep (by omega) fun b o l k z x e => hkD b (hoff2 _ _ _ _ _ _ e).2.1, hoff2⟩
  have hS0 : Stf h hD (R.off p) (R.off p) := ⟨by rw [hnx]; exact gr2.1, fun y hy ho => ⟨by rw [hkD y ho.2.1, gr2.2 y hy], ho⟩⟩
  obtain ⟨hO, hS⟩ := hR.putS (h2 := hD) (l := R.ss.set i (newX c v2 new)) (by rw [hnx]; exact gr2.1) (fun y hy ho => by rw [hkD y ho, gr2.2 y hy]) x3' (fun y hy => by
    rcases List.mem_or_eq_of_mem_set hy with g | g
    · exact ⟨(hR.sd y g).1.stf hS0, (hR.sd y g).2⟩
    · rw [g]; exact ⟨him, hcb⟩)
  refine ⟨b, v1, h1, v2, h2, hA, hB, hC, hD, y1, by rw [← hH1]; exact q1, t1, y2, z2, w2, x2, ⟨csA, kA, a2, a7⟩, ⟨csD, kD, d2, d9⟩, hO, hS0, him, fun w hw b' o l k z y e => ?_, im_dv (R := { R with ss := R.ss.set i (newX c v2 new) }) (c := newX c v2 new) (List.mem_of_getElem? e4)⟩
  rcases im_ss (v := R.sv) hw with g | g
  · exact .inr ⟨w, g, _, _, _, _, _, e⟩
  · obtain ⟨c1, h1', rfl⟩ := List.mem_map.1 g
    rcases List.mem_or_eq_of_mem_set h1' with g2 | g2
    · exact .inr ⟨_, im_dv g2, _, _, _, _, _, e⟩
    · rw [g2] at e; exact .inl (f2 _ _ _ _ _ _ e)
end Go.AM.X
