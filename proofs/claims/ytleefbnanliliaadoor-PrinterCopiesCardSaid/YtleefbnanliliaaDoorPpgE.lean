/- PrinterWaits: the plain law. Own work. -/
import Derived.Test.YtleefbnanliliaaDoorPpgD
namespace Go.AM.X
open Go Go.AM Go.Proofs Go.AM.Sx
set_option maxHeartbeats 3200000
set_option maxRecDepth 100000
set_option linter.unusedVariables false
def addJ (j : Nat) (w : Wt) : Wt := { w with w := w.w + j }
def rows (l : List Int) : List Wt := l.mapIdx fun i x => ⟨((i + 1 : Nat) : Int), x, .nilp⟩
end Go.AM.X
namespace Go.AM.X
open Go Go.AM Go.Proofs Go.AM.Sx
set_option maxHeartbeats 6400000
set_option maxRecDepth 100000
set_option linter.unusedVariables false
theorem F10 : F 10 = some { body := (Tryd.f10.body.getD .skip), results := Tryd.f10.results.toList, rf := false } := by kernel_rfl
theorem R10 : regsOk T (Tryd.f10.body.getD .skip) = true := by kernel_rfl
theorem R3 : regsOk T (Tryd.f3.body.getD .skip) = true := by kernel_rfl
def okQ (q : Int) : Bool := within q 1 500
def prt (q r : Int) : AB := .cells [.int .i64 q, .int .i64 r, .nils, .nils, .nils, .int .i64 0] .own
theorem K10 {I : Nat → Option (List AV → AH → Rs)} (h30 : I 30 = none) (h10 : I 10 = none) (m : Nat) (q : Int) (h : AH) : call F I T (m + 2) 10 [.int .i64 q] h = if okQ q = true then some (.tup [.ptr h.next 0, .int .i64 0], h.alloc (prt q 0)) else some (.tup [.nilp, .int .i64 2], h) := by
  rw [call_F (by decide) h10 F10 rfl R10]; simp only [Tryd.f10, Option.getD]
  cases hq : within q 1 500 <;> simp +contextual (maxSteps := 3000000) only [↓code_skip, ↓code_seq, ↓code_region, ↓code_cond, ↓code_ret, aCond_bool, ↓ops_nil, ↓ops_cons, run_none, ↓run0_v, ↓run0_r, ↓seqK_normal, ↓seqK_ret, ↓retK_ret, put_same, put_ne, env0_at, ev_tmp, ev_const, ev_func, oc_int, oc_nilp, o_move, o_assign, o_call, o_box, o_build, o_un, g_none, un_not, resultsOf, oneOrAll, Option.map_some, Option.getD_some, ↓reduceIte, Nat.reduceEqDiff, not_false_eq_true, Nat.reduceAdd, reduceCtorEq, List.getElem?_cons_zero, Bool.false_eq_true, List.map_cons, List.map_nil, List.append_nil, List.nil_append, List.cons_append, and_true, Nat.reduceLeDiff, Bool.not_true, Bool.not_false, ne_eq, build_struct T73 d73, z73, parts_eq, fillA, AV.cells, AH.splice, List.take_zero, List.drop_succ_cons, List.drop_zero, List.length_cons, List.length_nil, p73_0, box_agg, callV_fn (g := 30) (by decide), K30 h30, okQ, prt, hq]
noncomputable def g11 : List AV → Option AV
  | [] => some (.bool true)
  | _ => none
theorem K11 {I : Nat → Option (List AV → AH → Rs)} (h11 : I 11 = some (pureG g11)) (m : Nat) (h : AH) : call F I T (m + 1) 11 [] h = some (.bool true, h) := by
  rw [call_I (by decide) h11]; simp [pureG, flatL, g11]
end Go.AM.X
namespace Go.AM.X
open Go Go.AM Go.Proofs Go.AM.Sx
set_option maxHeartbeats 800000
set_option maxRecDepth 100000
theorem first11 : isT (call F noI T 60 11 [] e0) = true := by kernel_rfl
noncomputable def I1 := addI noI 11 (pureG g11)
theorem A1 : IAgree Tryd.prog I1 := by
  obtain ⟨fi, hfi⟩ : ∃ fi, F 11 = some fi := Option.isSome_iff_exists.1 (by kernel_rfl)
  refine pure_agree hT hmix hF (noI_agree _) (by decide) fi hfi fun args v hg _ => ?_
  unfold g11 at hg
  split at hg
  · cases hg
    obtain ⟨h', hc⟩ := isT_some first11
    exact ⟨[], 60, 3, h', .bool true, .bool true, WkL.nil, hc, by simp [frzF, AV.flat], Wk.refl _⟩
  · cases hg
end Go.AM.X
namespace Go.AM.Sx
open Go Go.AM
set_option linter.unusedVariables false
theorem RowC.app {T : TT} {t xt el : Nat} {ti te : TI} {sz n m : Nat} {h : AH} {v x : AV} {cs new : List AV} (ht : T t = some ti) (hd : ti.desc = .slice el) (he : T el = some te) (hx : isSrc T xt = true) (hz : te.size = sz) (hs0 : 0 < sz) (hb : 0 < te.bytes) (hr : RowC sz h v n cs)
    (hsrc : aSource te.size x h = some (m, new)) (hm : 0 < m) (hl : new.length = m * sz) (hone : new.all AV.one = true) (hsm : (n + m) * te.bytes < maxBytes) :
    ∃ v' h2, aAppend T t xt v x h = some (v', h2) ∧ RowC sz h2 v' (n + m) (cs ++ new) ∧ h.next ≤ h2.next ∧ (∀ c, c < h.next → offRow v c → h2.get c = h.get c) ∧
      (∀ b o l k z x, v' = .sl b o l k z x → h.next ≤ b ∨ ∃ o l k z x, v = .sl b o l k z x) := by
  rcases hr with ⟨rfl, rfl, rfl⟩ | ⟨b, cap, ex, rest, rfl, h1, h2, h3, h4⟩
  · have := app_nils (T := T) (h := h) ht hd he hx hsrc hb (by omega) (by simpa using hsm)
    rw [hz] at this
    refine ⟨_, _, this, .inr ⟨h.next, m, false, [], by simp, by simp [hl], by simp [hl], by simp, by rw [AH.get_alloc, if_pos rfl]; simp⟩, by simp, fun c hc _ => ?_, fun b o l k z x hv => by cases hv; exact .inl (Nat.le_refl _)⟩
    rw [AH.get_alloc, if_neg (by omega)]
  · have e1 : (n + m) * sz = n * sz + m * sz := Nat.add_mul _ _ _
    by_cases hc : n + m ≤ cap
    · have hrl : m * sz ≤ rest.length := by
        have : (n + m) * sz ≤ cap * sz := Nat.mul_le_mul_right _ hc
        omega
      have hsp : AH.splice (cs ++ rest) (n * sz) new = cs ++ new ++ rest.drop (m * sz) := by
        unfold AH.splice
        rw [← h1, List.take_left, hl, ← List.drop_drop, List.drop_left]
      refine ⟨.sl b 0 (n + m) cap sz ex, h.put b (.cells (cs ++ new ++ rest.drop (m * sz)) .own), ?_, .inr ⟨b, cap, ex, rest.drop (m * sz), rfl, by rw [List.length_append, hl, h1, e1], ?_, h3, by rw [AH.get_put, if_pos rfl]⟩, Nat.le_refl _, fun c hc hoff => ?_, fun b' o l k z x hv => by cases hv; exact .inr ⟨_, _, _, _, _, rfl⟩⟩
      · simp only [aAppend, ht, hd, he, hx, hsrc]
        rw [if_pos hz, if_pos hc, Nat.zero_add]
        simp only [AH.storen, h4]
        rw [if_pos ⟨by rw [List.length_append]; omega, hone⟩, hsp]
        rfl
      · rw [List.length_append, List.length_drop]; omega
      · rw [AH.get_put, if_neg (hoff _ _ _ _ _ _ rfl)]
    · have e2 : n * sz ≤ cap * sz := by omega
      have hcn := Nat.le_of_mul_le_mul_right e2 hs0
      have htk : List.take (n * sz) (List.drop 0 (cs ++ rest)) = cs := by rw [List.drop_zero, ← h1, List.take_left]
      have hgl : 0 + n * sz ≤ (cs ++ rest).length := by rw [List.length_append]; omega
      cases ex with
      | true =>
        have : aAppend T t xt (.sl b 0 n cap sz true) x h = some (.sl h.next 0 (n + m) (n + m) sz false, h.alloc (.cells (cs ++ new) .own)) := by
          simp only [aAppend, ht, hd, he, hx, hsrc]
          rw [if_pos hz, if_neg hc, if_pos ⟨hb, hsm⟩]
          simp only [h4]
          rw [if_pos hgl, htk]
        refine ⟨_, _, this, .inr ⟨h.next, n + m, false, [], rfl, by rw [List.length_append, hl, h1, e1], by rw [List.length_append, hl, h1, e1]; simp, by simp, by rw [AH.get_alloc, if_pos rfl]; simp⟩, by simp, fun c hc hoff => ?_, fun b o l k z x hv => by cases hv; exact .inl (Nat.le_refl _)⟩
        rw [AH.get_alloc, if_neg (by omega)]
      | false =>
        have : aAppend T t xt (.sl b 0 n cap sz false) x h = some (.sl h.next 0 (n + m) (n + m) sz false, (h.put b .dead).alloc (.cells (cs ++ new) .own)) := by
          simp only [aAppend, ht, hd, he, hx, hsrc]
          rw [if_pos hz, if_neg hc, if_pos ⟨hb, hsm⟩]
          simp only [h4]
          rw [if_pos hgl]
          simp only [hone, if_true]
          rw [htk]
        refine ⟨_, _, this, .inr ⟨h.next, n + m, false, [], rfl, by rw [List.length_append, hl, h1, e1], by rw [List.length_append, hl, h1, e1]; simp, by simp, by rw [AH.get_alloc, if_pos (by simp)]; simp⟩, by simp, fun c hc hoff => ?_, fun b o l k z x hv => by cases hv; exact .inl (Nat.le_refl _)⟩
        rw [AH.get_alloc, if_neg (by simp; omega), AH.get_put, if_neg (hoff _ _ _ _ _ _ rfl)]
theorem RowC.app' {T : TT} {t xt el : Nat} {ti te : TI} {sz n m : Nat} {h : AH} {v x : AV} {cs new : List AV} (ht : T t = some ti) (hd : ti.desc = .slice el) (he : T el = some te) (hx : isSrc T xt = true) (hz : te.size = sz) (hs0 : 0 < sz) (hb : 0 < te.bytes) (hr : RowC sz h v n cs)
    (hsrc : aSource te.size x h = some (m, new)) (hl : new.length = m * sz) (hone : new.all AV.one = true) (hsm : (n + m) * te.bytes < maxBytes) :
    ∃ v' h2, aAppend T t xt v x h = some (v', h2) ∧ RowC sz h2 v' (n + m) (cs ++ new) ∧ h.next ≤ h2.next ∧ (∀ c, c < h.next → offRow v c → h2.get c = h.get c) ∧
      (∀ b o l k z x, v' = .sl b o l k z x → h.next ≤ b ∨ ∃ o l k z x, v = .sl b o l k z x) := by
  rcases Nat.eq_zero_or_pos m with rfl | hm
  · have hnew : new = [] := List.length_eq_zero_iff.1 (by rw [hl]; simp)
    subst hnew
    rcases hr with ⟨rfl, rfl, rfl⟩ | ⟨b, cap, ex, rest, rfl, h1, h2, h3, h4⟩
    · refine ⟨.nils, h, ?_, RowC.nil _ _, Nat.le_refl _, fun _ _ _ => rfl, fun _ _ _ _ _ _ e => by cases e⟩
      simp [aAppend, ht, hd, he, hx, hsrc]
    · have hcn : n ≤ cap := Nat.le_of_mul_le_mul_right (show n * sz ≤ cap * sz by omega) hs0
      have hsp : AH.splice (cs ++ rest) (n * sz) [] = cs ++ rest := by unfold AH.splice; simp
      refine ⟨.sl b 0 n cap sz ex, h.put b (.cells (cs ++ rest) .own), ?_, .inr ⟨b, cap, ex, rest, rfl, by simpa using h1, by simpa using h2, h3, by rw [AH.get_put, if_pos rfl]; simp⟩, Nat.le_refl _, fun c hc hoff => ?_, fun b' o l k z x hv => by cases hv; exact .inr ⟨_, _, _, _, _, rfl⟩⟩
      · simp only [aAppend, ht, hd, he, hx, hsrc]
        rw [if_pos hz, if_pos (by omega), Nat.zero_add]
        simp only [AH.storen, h4]
        rw [if_pos ⟨by simp; omega, rfl⟩, hsp]
        rfl
      · rw [AH.get_put, if_neg (hoff _ _ _ _ _ _ rfl)]
  · exact hr.app ht hd he hx hz hs0 hb hsrc hm hl hone hsm
end Go.AM.Sx
namespace Go.AM.X
open Go Go.AM Go.Proofs Go.AM.Sx
set_option maxHeartbeats 3200000
set_option maxRecDepth 100000
set_option linter.unusedVariables false
theorem F43 : F 43 = some { body := (Tryd.f43.body.getD .skip), results := Tryd.f43.results.toList, rf := false } := by kernel_rfl
theorem R43 : regsOk T (Tryd.f43.body.getD .skip) = true := by kernel_rfl
theorem F25 : F 25 = some { body := (Tryd.f25.body.getD .skip), results := Tryd.f25.results.toList, rf := false } := by kernel_rfl
theorem R25 : regsOk T (Tryd.f25.body.getD .skip) = true := by kernel_rfl
theorem run43 {I : Nat → Option (List AV → AH → Rs)} (h43 : I 43 = none) (m : Nat) (q : Int) (h : AH) (hq : 0 ≤ q ∧ q ≤ 255) : call F I T (m + 1) 43 [.int .i64 q] h = some (.int .i64 (q % 255 + 1), h) := by
  have c1 : q.tmod 255 = q % 255 := Int.tmod_eq_emod_of_nonneg hq.1
  have c2 : IntKind.i64.wrap (q % 255) = q % 255 := wrap_i64 (by omega) (by omega)
  have c3 : IntKind.i64.wrap (q % 255 + 1) = q % 255 + 1 := wrap_i64 (by omega) (by omega)
  rw [call_F (by decide) h43 F43 rfl R43]; simp only [Tryd.f43, Option.getD]
  simp +contextual (maxSteps := 3000000) only [↓code_seq, ↓code_region, ↓code_ret, ↓ops_nil, ↓ops_cons, run_none, ↓run0_v, ↓seqK_normal, ↓retK_ret, put_same, put_ne, env0_at, ev_tmp, ev_const, oc_int, o_move, o_assign, o_bin, g_none, bin_add, bin_rem, resultsOf, oneOrAll, Option.map_some, Option.getD_some, ↓reduceIte, not_false_eq_true, reduceCtorEq, List.getElem?_cons_zero, ne_eq, c1, c3, (show ¬ (255 : Int) = 0 by decide)]
/-- A complete job: its client, its data in memory, its bytes. -/
structure Jb where
  c : Int
  d : AV
  bs : List Int
def jcs (js : List Jb) : List AV := js.flatMap fun j => [.int .i64 j.c, j.d]
def Dat (h : AH) (v : AV) (bs : List Int) : Prop := RowC 1 h v bs.length (bs.map fun b => .int .u8 b)
theorem Dat.grow {h h2 : AH} {v : AV} {bs : List Int} (hd : Dat h v bs) (hg : Grow h h2) : Dat h2 v bs := RowC.grow hd hg
theorem Dat.keep {h h2 : AH} {v : AV} {bs : List Int} (hd : Dat h v bs) (hn : h.next ≤ h2.next) (hk : ∀ b o l k z x, v = .sl b o l k z x → h2.get b = h.get b) : Dat h2 v bs := RowC.keep hd hn hk
/-- A printer with the bytes of its services (by their addresses) and its jobs. -/
structure OkD (h : AH) (p : Nat) (P : Pr) (dat : Nat → List Int) (js : List Jb) : Prop where
  ok : OkP h p P
  dd : ∀ s ∈ P.ss, Dat h s.d (dat s.a)
  dx : ∀ s ∈ P.ss, ∀ b o l k z x, s.d = .sl b o l k z x → P.off p b ∧ offRow P.jv b
  dn : ∀ s ∈ P.ss, ∀ t ∈ P.ss, s.a ≠ t.a → ∀ b o l k z x, s.d = .sl b o l k z x → offRow t.d b
  jr : RowC 2 h P.jv js.length (jcs js)
  jx : ∀ b o l k z x, P.jv = .sl b o l k z x → P.off p b
  jd : ∀ j ∈ js, Dat h j.d j.bs
  jf : ∀ j ∈ js, ∀ b o l k z x, j.d = .sl b o l k z x → P.off p b ∧ offRow P.jv b ∧ ∀ s ∈ P.ss, offRow s.d b
theorem OkD.grow {h h2 : AH} {p : Nat} {P : Pr} {dat : Nat → List Int} {js : List Jb} (hP : OkD h p P dat js) (hg : Grow h h2) : OkD h2 p P dat js :=
  { ok := hP.ok.grow hg, dd := fun s a => (hP.dd s a).grow hg, dx := hP.dx, dn := hP.dn, jr := hP.jr.grow hg, jx := hP.jx, jd := fun j hj => (hP.jd j hj).grow hg, jf := hP.jf }
/-- What is no part of a printer. -/
def Pr.offD (P : Pr) (js : List Jb) (p c : Nat) : Prop := P.off p c ∧ offRow P.jv c ∧ (∀ s ∈ P.ss, offRow s.d c) ∧ ∀ j ∈ js, offRow j.d c
/-- What is none of a thing's own is as it was, and is none of its own behind it. -/
def Stf (h h2 : AH) (o o2 : Nat → Prop) : Prop := h.next ≤ h2.next ∧ ∀ c, c < h.next → o c → h2.get c = h.get c ∧ o2 c
theorem Stf.trans {h h2 h3 : AH} {o o2 o3 : Nat → Prop} (a : Stf h h2 o o2) (b : Stf h2 h3 o2 o3) : Stf h h3 o o3 :=
  ⟨Nat.le_trans a.1 b.1, fun c hc ho => by
    have h1 := a.2 c hc ho
    have h2 := b.2 c (Nat.lt_of_lt_of_le hc a.1) h1.2
    exact ⟨h2.1.trans h1.1, h2.2⟩⟩
theorem Stf.grow {h h2 : AH} (o : Nat → Prop) (a : Grow h h2) : Stf h h2 o o := ⟨a.1, fun c hc ho => ⟨a.2 c hc, ho⟩⟩
theorem Stf.refl (h : AH) (o : Nat → Prop) : Stf h h o o := Stf.grow o (Grow.refl h)
/-- A step that gives each service the data that it had, or none, keeps all. -/
theorem OkD.stp {h h2 : AH} {p : Nat} {P P2 : Pr} {dat dat2 : Nat → List Int} {js : List Jb} (hP : OkD h p P dat js) (h2P : OkP h2 p P2) (hS : Stp h h2 p P P2) (hj : P2.jv = P.jv)
    (hf : ∀ s ∈ P2.ss, (s.d = .nils ∧ dat2 s.a = []) ∨ ∃ s0 ∈ P.ss, s0.a = s.a ∧ s.d = s0.d ∧ dat2 s.a = dat s0.a) : OkD h2 p P2 dat2 js ∧ Stf h h2 (P.offD js p) (P2.offD js p) := by
  have hjoff : ∀ b o l k z x, P.jv = .sl b o l k z x → h2.get b = h.get b ∧ P2.off p b := fun b o l k z x e => hS.2 b (hP.jr.lt e) (hP.jx _ _ _ _ _ _ e)
  have hdat : ∀ s ∈ P.ss, ∀ b o l k z x, s.d = .sl b o l k z x → h2.get b = h.get b ∧ P2.off p b := fun s hs b o l k z x e => hS.2 b (RowC.lt (hP.dd s hs) e) (hP.dx s hs _ _ _ _ _ _ e).1
  refine ⟨{ ok := h2P, dd := ?_, dx := ?_, dn := ?_, jr := ?_, jx := ?_, jd := ?_, jf := ?_ }, hS.1, fun c hc ho => ?_⟩
  · intro s hs
    rcases hf s hs with ⟨h1, h2⟩ | ⟨s0, h1, h2, h3, h4⟩
    · rw [h1, h2]; exact RowC.nil _ _
    · rw [h3, h4]
      exact (hP.dd _ h1).keep hS.1 fun b o l k z x e => (hdat _ h1 _ _ _ _ _ _ e).1
  · intro s hs b o l k z x e
    rcases hf s hs with ⟨h1, _⟩ | ⟨s0, h1, h2, h3, _⟩
    · rw [h1] at e; cases e
    · rw [h3] at e
      exact ⟨(hdat _ h1 _ _ _ _ _ _ e).2, by rw [hj]; exact (hP.dx s0 h1 _ _ _ _ _ _ e).2⟩
  · intro s hs t ht hst b o l k z x e
    rcases hf s hs with ⟨h1, _⟩ | ⟨s0, h1, h2, h3, _⟩
    · rw [h1] at e; cases e
    rcases hf t ht with ⟨g1, _⟩ | ⟨t0, g1, g2, g3, _⟩
    · rw [g1]; intro _ _ _ _ _ _ e; cases e
    · rw [h3] at e
      rw [g3]
      exact hP.dn _ h1 _ g1 (by rw [h2, g2]; exact hst) _ _ _ _ _ _ e
  · rw [hj]; exact hP.jr.keep hS.1 fun b o l k z x e => (hjoff _ _ _ _ _ _ e).1
  · rw [hj]; exact fun b o l k z x e => (hjoff _ _ _ _ _ _ e).2
  · intro j hm
    refine (hP.jd j hm).keep hS.1 fun b o l k z x e => ?_
    exact (hS.2 b (RowC.lt (hP.jd j hm) e) (hP.jf j hm _ _ _ _ _ _ e).1).1
  · intro j hm b o l k z x e
    have h1 := hP.jf j hm _ _ _ _ _ _ e
    refine ⟨(hS.2 b (RowC.lt (hP.jd j hm) e) h1.1).2, by rw [hj]; exact h1.2.1, fun s hs => ?_⟩
    rcases hf s hs with ⟨g1, _⟩ | ⟨s0, g1, g2, g3, _⟩
    · rw [g1]; intro _ _ _ _ _ _ e; cases e
    · rw [g3]; exact h1.2.2 s0 g1
  · have h1 := hS.2 c hc ho.1
    refine ⟨h1.1, h1.2, by rw [hj]; exact ho.2.1, fun s hs => ?_, ho.2.2.2⟩
    rcases hf s hs with ⟨g1, _⟩ | ⟨s0, g1, g2, g3, _⟩
    · rw [g1]; intro _ _ _ _ _ _ e; cases e
    · rw [g3]; exact ho.2.2.1 s0 g1
theorem OkP.keep {h h2 : AH} {p : Nat} {P : Pr} (hP : OkP h p P) (hn : h.next ≤ h2.next) (hk : ∀ c, c < h.next → ¬ P.off p c → h2.get c = h.get c) : OkP h2 p P :=
  { lt := by have := hP.lt; omega
    g := by rw [hk p hP.lt (fun h => h.1 rfl)]; exact hP.g
    w := hP.w.keep hn fun b o l k z x e => hk b (hP.w.lt e) fun h => h.2.1 _ _ _ _ _ _ e rfl
    s := hP.s.keep hn fun b o l k z x e => hk b (hP.s.lt e) fun h => h.2.2.1 _ _ _ _ _ _ e rfl
    b := fun x hx => ⟨by have := (hP.b x hx).1; omega, by unfold Sv.ok; rw [hk _ (hP.b x hx).1 fun h => h.2.2.2 x hx rfl]; exact (hP.b x hx).2⟩
    wp := hP.wp, sp := hP.sp, wsv := hP.wsv, ap := hP.ap, nd := hP.nd, wb := hP.wb, jc := hP.jc, wl := hP.wl, sl := hP.sl }
theorem OkD.keepD {h h2 : AH} {p : Nat} {P : Pr} {dat : Nat → List Int} {js : List Jb} (hP : OkD h p P dat js) (hn : h.next ≤ h2.next) (hk : ∀ c, c < h.next → ¬ P.offD js p c → h2.get c = h.get c) : OkD h2 p P dat js :=
  { ok := hP.ok.keep hn fun c hc hnn => hk c hc fun h => hnn h.1
    dd := fun s hs => (hP.dd s hs).keep hn fun b o l k z x e => hk b (RowC.lt (hP.dd s hs) e) fun h => h.2.2.1 s hs _ _ _ _ _ _ e rfl
    dx := hP.dx, dn := hP.dn
    jr := hP.jr.keep hn fun b o l k z x e => hk b (hP.jr.lt e) fun h => h.2.1 _ _ _ _ _ _ e rfl
    jx := hP.jx
    jd := fun j hj => (hP.jd j hj).keep hn fun b o l k z x e => hk b (RowC.lt (hP.jd j hj) e) fun h => h.2.2.2 j hj _ _ _ _ _ _ e rfl
    jf := hP.jf }
theorem OkD.off_ge {h : AH} {p : Nat} {P : Pr} {dat : Nat → List Int} {js : List Jb} (hP : OkD h p P dat js) {c : Nat} (hc : h.next ≤ c) : P.offD js p c :=
  ⟨⟨by have := hP.ok.lt; omega, fun b o l k z x e => by have := hP.ok.w.lt e; omega, fun b o l k z x e => by have := hP.ok.s.lt e; omega, fun s hs => by have := (hP.ok.b s hs).1; omega⟩,
    fun b o l k z x e => by have := hP.jr.lt e; omega, fun s hs b o l k z x e => by have := RowC.lt (hP.dd s hs) e; omega, fun j hj b o l k z x e => by have := RowC.lt (hP.jd j hj) e; omega⟩
end Go.AM.X
namespace Go.AM.X
open Go Go.AM Go.Proofs Go.AM.Sx
set_option maxHeartbeats 3200000
set_option maxRecDepth 100000
set_option linter.unusedVariables false
theorem OkP.putS {h : AH} {p i : Nat} {P : Pr} {s s2 : Sv} (hP : OkP h p P) (hs : P.ss[i]? = some s) (hsa : s2.a = s.a) :
    OkP (h.put s.a (.cells s2.enc .own)) p { P with ss := P.ss.set i s2 } ∧ Stp h (h.put s.a (.cells s2.enc .own)) p P { P with ss := P.ss.set i s2 } := by
  have hm := List.mem_of_getElem? hs
  have ha := hP.ap s hm
  have hb := hP.b s hm
  have hids : (P.ss.set i s2).map Sv.a = P.ss.map Sv.a := set_same _ _ _ _ _ hs hsa
  have hsc : scs (P.ss.set i s2) = scs P.ss := set_same _ _ _ _ _ hs (by simp [hsa])
  refine hP.core_s (v := P.sv) (ss := P.ss.set i s2) (by rw [AH.get_put, if_neg ha.1]; exact hP.g) ?_ (Nat.le_refl _) (fun c _ _ _ hc => by rw [AH.get_put, if_neg (hc s hm)]) (fun b o l k z x hv => .inr ⟨_, _, _, _, _, hv⟩) ?_ (by rw [hids]; exact hP.nd) (by rw [List.length_set]; exact hP.sl)
  · rw [hsc, List.length_set]
    exact hP.s.keep (Nat.le_refl _) fun b o l k z x hv => by rw [AH.get_put, if_neg (fun e => ha.2.2 _ _ _ _ _ _ hv e.symm)]
  · intro x hx
    obtain ⟨j, hj⟩ := List.mem_iff_getElem?.1 hx
    rw [List.getElem?_set] at hj
    by_cases hij : i = j
    · subst hij
      rw [if_pos rfl] at hj
      split at hj
      · cases hj
        rw [hsa]
        exact ⟨hb.1, by unfold Sv.ok; rw [AH.get_put, if_pos hsa], ha.1, ha.2.1, ha.2.2, .inr ⟨s, hm, rfl⟩⟩
      · cases hj
    · rw [if_neg hij] at hj
      have hxm := List.mem_of_getElem? hj
      have hne : x.a ≠ s.a := by
        intro e
        have hi := (List.getElem?_eq_some_iff.1 hs).1
        exact hij ((List.getElem?_inj (l := P.ss.map Sv.a) (by rw [List.length_map]; exact hi) hP.nd).1 (by rw [List.getElem?_map, List.getElem?_map, hs, hj]; simp [e]))
      have ha' := hP.ap x hxm
      have hb' := hP.b x hxm
      exact ⟨hb'.1, by unfold Sv.ok; rw [AH.get_put, if_neg hne]; exact hb'.2, ha'.1, ha'.2.1, ha'.2.2, .inr ⟨x, hxm, rfl⟩⟩
theorem mem_set_nd {l : List Sv} {i : Nat} {s s2 t : Sv} (hnd : (l.map Sv.a).Nodup) (hs : l[i]? = some s) (ht : t ∈ l.set i s2) : t = s2 ∨ (t ∈ l ∧ t.a ≠ s.a) := by
  obtain ⟨j, hj⟩ := List.mem_iff_getElem?.1 ht
  rw [List.getElem?_set] at hj
  by_cases hij : i = j
  · subst hij
    rw [if_pos rfl] at hj
    split at hj
    · cases hj; exact .inl rfl
    · cases hj
  · rw [if_neg hij] at hj
    refine .inr ⟨List.mem_of_getElem? hj, fun e => ?_⟩
    have hi := (List.getElem?_eq_some_iff.1 hs).1
    exact hij ((List.getElem?_inj (l := l.map Sv.a) (by rw [List.length_map]; exact hi) hnd).1 (by rw [List.getElem?_map, List.getElem?_map, hs, hj]; simp [e]))
/-- The same, with the data kept. -/
theorem OkD.putS {h : AH} {p i : Nat} {P : Pr} {dat : Nat → List Int} {js : List Jb} {s s2 : Sv} (hP : OkD h p P dat js) (hs : P.ss[i]? = some s) (hsa : s2.a = s.a) (hsd : s2.d = s.d) :
    OkD (h.put s.a (.cells s2.enc .own)) p { P with ss := P.ss.set i s2 } dat js ∧ Stf h (h.put s.a (.cells s2.enc .own)) (P.offD js p) (({ P with ss := P.ss.set i s2 } : Pr).offD js p) := by
  have h1 := hP.ok.putS hs hsa
  refine hP.stp h1.1 h1.2 rfl fun t ht => .inr ?_
  rcases List.mem_or_eq_of_mem_set ht with h | h
  · exact ⟨t, h, rfl, rfl, rfl⟩
  · subst h; exact ⟨s, List.mem_of_getElem? hs, hsa.symm, hsd, by rw [hsa]⟩
/-- One that is served is changed, and has no data any more. -/
theorem OkD.putN {h : AH} {p i : Nat} {P : Pr} {dat : Nat → List Int} {js : List Jb} {s s2 : Sv} (hP : OkD h p P dat js) (hs : P.ss[i]? = some s) (hsa : s2.a = s.a) (hsd : s2.d = .nils) :
    OkD (h.put s.a (.cells s2.enc .own)) p { P with ss := P.ss.set i s2 } (fun a => if a = s.a then [] else dat a) js ∧ Stf h (h.put s.a (.cells s2.enc .own)) (P.offD js p) (({ P with ss := P.ss.set i s2 } : Pr).offD js p) := by
  have h1 := hP.ok.putS hs hsa
  refine hP.stp h1.1 h1.2 rfl fun t ht => ?_
  rcases mem_set_nd hP.ok.nd hs ht with h | ⟨h, hne⟩
  · subst h; exact .inl ⟨hsd, by rw [if_pos hsa]⟩
  · exact .inr ⟨t, h, rfl, rfl, by rw [if_neg hne]⟩
end Go.AM.X
namespace Go.AM.X
open Go Go.AM Go.Proofs Go.AM.Sx
set_option maxHeartbeats 3200000
set_option maxRecDepth 100000
set_option linter.unusedVariables false
def bytes (l : List Int) : List AV := l.map fun b => .int .u8 b
def addD (dat : Nat → List Int) (a : Nat) (new : List Int) : Nat → List Int := fun c => if c = a then dat a ++ new else dat c
theorem OkD.app {h : AH} {p i : Nat} {P : Pr} {dat : Nat → List Int} {js : List Jb} {s : Sv} {new : List Int} {x : AV} (hP : OkD h p P dat js) (hs : P.ss[i]? = some s) (hx : aSource 1 x h = some (new.length, bytes new)) (hl : (dat s.a).length + new.length ≤ 10000) :
    ∃ v2 h2, aAppend T 48 48 s.d x h = some (v2, h2) ∧ h2.get s.a = h.get s.a ∧ v2.cells = some [v2] ∧ v2.one = true ∧ h.next ≤ h2.next ∧
      OkD (h2.put s.a (.cells ({ s with d := v2 } : Sv).enc .own)) p { P with ss := P.ss.set i { s with d := v2 } } (addD dat s.a new) js ∧
      Stf h (h2.put s.a (.cells ({ s with d := v2 } : Sv).enc .own)) (P.offD js p) (({ P with ss := P.ss.set i { s with d := v2 } } : Pr).offD js p) := by
  have hsm := List.mem_of_getElem? hs
  have hd := hP.dd s hsm
  have hsb := (hP.ok.b s hsm).1
  obtain ⟨v2, h2, r1, r2, r3, r4, r5⟩ := RowC.app' (new := bytes new) (m := new.length) (xt := 48) T48 d48 T5 (isSrc_sl T48 d48) s5 (by decide) (by rw [b5]; decide) hd (by rw [s5]; exact hx) (by simp [bytes]) (by simp [bytes, AV.one]) (by rw [b5]; simp [maxBytes]; omega)
  obtain ⟨u1, u2⟩ := r2.cells
  have hso : ∀ c, ¬ P.off p c → offRow s.d c := fun c hc b o l k z x e hcb => hc (hcb ▸ (hP.dx s hsm _ _ _ _ _ _ e).1)
  have hO2 : OkP h2 p P := hP.ok.keep r3 fun c hc hn => r4 c hc (hso c hn)
  have hO3 := hO2.putS (s2 := { s with d := v2 }) hs rfl
  have hoff : ∀ c, P.off p c → ({ P with ss := P.ss.set i { s with d := v2 } } : Pr).off p c := fun c hc => ⟨hc.1, hc.2.1, hc.2.2.1, fun t ht => by
    rcases List.mem_or_eq_of_mem_set ht with h | h
    · exact hc.2.2.2 t h
    · subst h; exact hc.2.2.2 s hsm⟩
  have hv2 : ∀ b o l k z x, v2 = .sl b o l k z x → P.off p b ∧ offRow P.jv b := fun b o l k z x e => by
    rcases r5 _ _ _ _ _ _ e with hb | ⟨_, _, _, _, _, e0⟩
    · exact ⟨⟨by have := hP.ok.lt; omega, fun _ _ _ _ _ _ e => by have := hP.ok.w.lt e; omega, fun _ _ _ _ _ _ e => by have := hP.ok.s.lt e; omega, fun t ht => by have := (hP.ok.b t ht).1; omega⟩, fun _ _ _ _ _ _ e => by have := hP.jr.lt e; omega⟩
    · exact hP.dx s hsm _ _ _ _ _ _ e0
  have hput : ∀ c, c ≠ s.a → (h2.put s.a (.cells ({ s with d := v2 } : Sv).enc .own)).get c = h2.get c := fun c hc => by rw [AH.get_put, if_neg hc]
  refine ⟨v2, h2, r1, r4 _ hsb (hso _ fun h => h.2.2.2 s hsm rfl), u1, u2, r3, { ok := hO3.1, dd := ?_, dx := ?_, dn := ?_, jr := ?_, jx := ?_, jd := ?_, jf := ?_ }, r3, fun c hc ho => ?_⟩
  · intro t ht
    rcases mem_set_nd hP.ok.nd hs ht with g | ⟨g, hne⟩
    · subst g
      show RowC 1 _ v2 _ _
      simp only [addD, if_true]
      rw [List.length_append, List.map_append]
      exact r2.keep (Nat.le_refl _) fun b o l k z x e => hput b ((hv2 _ _ _ _ _ _ e).1.2.2.2 s hsm)
    · unfold addD
      rw [if_neg hne]
      refine (hP.dd t g).keep r3 fun b o l k z x e => ?_
      rw [hput b ((hP.dx t g _ _ _ _ _ _ e).1.2.2.2 s hsm)]
      exact r4 b (RowC.lt (hP.dd t g) e) (hP.dn t g s hsm hne _ _ _ _ _ _ e)
  · intro t ht b o l k z x e
    rcases List.mem_or_eq_of_mem_set ht with h | h
    · exact ⟨hoff b (hP.dx t h _ _ _ _ _ _ e).1, (hP.dx t h _ _ _ _ _ _ e).2⟩
    · subst h; exact ⟨hoff b (hv2 _ _ _ _ _ _ e).1, (hv2 _ _ _ _ _ _ e).2⟩
  · intro t ht u hu htu b o l kk z x e
    rcases mem_set_nd hP.ok.nd hs ht with g1 | ⟨g1, hne⟩
    · subst g1
      rcases mem_set_nd hP.ok.nd hs hu with g | ⟨g, gne⟩
      · subst g; exact absurd rfl htu
      · rcases r5 _ _ _ _ _ _ e with hb1 | ⟨_, _, _, _, _, e0⟩
        · intro b' _ _ _ _ _ e' hbb
          have := RowC.lt (hP.dd u g) e'
          omega
        · exact hP.dn s hsm u g htu _ _ _ _ _ _ e0
    · rcases mem_set_nd hP.ok.nd hs hu with g | ⟨g, gne⟩
      · subst g
        exact off_new (h := h) r5 (RowC.lt (hP.dd t g1) e) (hP.dn t g1 s hsm hne _ _ _ _ _ _ e)
      · exact hP.dn t g1 u g htu _ _ _ _ _ _ e
  · refine hP.jr.keep r3 fun b o l k z x e => ?_
    rw [hput b ((hP.jx _ _ _ _ _ _ e).2.2.2 s hsm)]
    exact r4 b (hP.jr.lt e) fun b' _ _ _ _ _ e' hbb => (hP.dx s hsm _ _ _ _ _ _ e').2 _ _ _ _ _ _ e hbb.symm
  · exact fun b o l k z x e => hoff b (hP.jx _ _ _ _ _ _ e)
  · intro j hj
    refine (hP.jd j hj).keep r3 fun b o l k z x e => ?_
    have h1 := hP.jf j hj _ _ _ _ _ _ e
    rw [hput b (h1.1.2.2.2 s hsm)]
    exact r4 b (RowC.lt (hP.jd j hj) e) (h1.2.2 s hsm)
  · intro j hj b o l k z x e
    have h1 := hP.jf j hj _ _ _ _ _ _ e
    refine ⟨hoff b h1.1, h1.2.1, fun t ht => ?_⟩
    rcases List.mem_or_eq_of_mem_set ht with g | g
    · exact h1.2.2 t g
    · subst g
      exact off_new (h := h) r5 (RowC.lt (hP.jd j hj) e) (h1.2.2 s hsm)
  · refine ⟨by rw [hput c (ho.1.2.2.2 s hsm)]; exact r4 c hc (ho.2.2.1 s hsm), hoff c ho.1, ho.2.1, fun t ht => ?_, ho.2.2.2⟩
    rcases List.mem_or_eq_of_mem_set ht with g | g
    · exact ho.2.2.1 t g
    · subst g; exact off_new (h := h) r5 hc (ho.2.2.1 s hsm)
end Go.AM.X
namespace Go.AM.X
open Go Go.AM Go.Proofs Go.AM.Sx
set_option maxHeartbeats 3200000
set_option maxRecDepth 100000
set_option linter.unusedVariables false
theorem F42 : F 42 = some { body := (Tryd.f42.body.getD .skip), results := Tryd.f42.results.toList, rf := false } := by kernel_rfl
theorem R42 : regsOk T (Tryd.f42.body.getD .skip) = true := by kernel_rfl
theorem run42A {I : Nat → Option (List AV → AH → Rs)} (h39 : I 39 = none) (h43 : I 43 = none) (h42 : I 42 = none) (m p i : Nat) (n : Int) (x en : AV) (P : Pr) (s : Sv) (h : AH) (hP : OkP h p P) (hs : P.ss[i]? = some s) (hn : n = s.q) :
    call F I T (m + 100) 42 [.ptr p 0, .int .i64 (i : Nat), .int .i64 n, x, en] h = some (.int .i64 0, h.put s.a (.cells ({ s with s := 0 } : Sv).enc .own)) := by
  have hp : h.get p = some (.cells [.int .i64 P.q, .int .i64 P.r, P.wv, P.sv, P.jv, .int .i64 P.lf] .own) := hP.g
  obtain ⟨b, cs, bk, g1, g2, g3⟩ := loadS hP.s hs
  have g4 := (hP.b s (List.mem_of_getElem? hs)).2
  unfold Sv.ok Sv.enc at g4
  subst hn
  rw [call_F (by decide) h42 F42 rfl R42]; simp only [Tryd.f42, Option.getD]
  simp +contextual (maxSteps := 3000000) only [↓code_seq, ↓code_region, ↓code_cond, ↓code_block, ↓code_ret, aCond_bool, ↓ops_nil, ↓ops_cons, run_none, ↓run0_v, ↓seqK_normal, ↓seqK_ret, ↓blkK_ret, ↓retK_ret, put_same, put_ne, put_none, env0_at, ev_tmp, ev_const, oc_int, o_move, o_assign, o_bin, o_load, o_store, o_nilCheck, o_fieldAddr, o_indexAddr, g_none, bin_eql, nil_ptr, resultsOf, oneOrAll, Option.map_some, Option.getD_some, decide_eq_true_eq, ↓reduceIte, Nat.reduceEqDiff, not_false_eq_true, Nat.reduceAdd, reduceCtorEq, List.getElem?_cons_zero, List.getElem?_cons_succ, ne_eq, fa_ptr T73 p73_3 (by decide), load_p1 T71 a71, loadc_def, load_p1 T82 a82, fa_ptr T84 p84_3 (by decide), load_p1 T3 a3, fa_ptr T84 p84_4 (by decide), st_int T3 s3, stm_own, List.length_cons, List.length_nil, hp, g1, g2, g3, g4]
  rfl
theorem run42B {I : Nat → Option (List AV → AH → Rs)} (h39 : I 39 = none) (h43 : I 43 = none) (h42 : I 42 = none) (m p i : Nat) (n : Int) (x en : AV) (P : Pr) (s : Sv) (h : AH) (hP : OkP h p P) (hs : P.ss[i]? = some s) (hq : 0 ≤ s.q ∧ s.q ≤ 255) (hn : ¬ n = s.q) (hn2 : ¬ n = s.q % 255 + 1) :
    call F I T (m + 100) 42 [.ptr p 0, .int .i64 (i : Nat), .int .i64 n, x, en] h = some (.int .i64 90, h) := by
  have hp : h.get p = some (.cells [.int .i64 P.q, .int .i64 P.r, P.wv, P.sv, P.jv, .int .i64 P.lf] .own) := hP.g
  obtain ⟨b, cs, bk, g1, g2, g3⟩ := loadS hP.s hs
  have g4 := (hP.b s (List.mem_of_getElem? hs)).2
  unfold Sv.ok Sv.enc at g4
  have k43 := fun m => run43 (by assumption) m s.q h hq
  rw [call_F (by decide) h42 F42 rfl R42]; simp only [Tryd.f42, Option.getD]
  simp +contextual (maxSteps := 3000000) only [↓code_seq, ↓code_region, ↓code_cond, ↓code_block, ↓code_ret, aCond_bool, ↓ops_nil, ↓ops_cons, run_none, ↓run0_v, ↓run0_r, ↓seqK_normal, ↓seqK_ret, ↓blkK_ret, ↓retK_ret, put_same, put_ne, env0_at, ev_tmp, ev_const, ev_func, oc_int, o_move, o_assign, o_bin, o_call, o_load, o_nilCheck, o_fieldAddr, o_indexAddr, g_none, bin_eql, bin_neq, nil_ptr, resultsOf, oneOrAll, Option.map_some, Option.getD_some, decide_eq_true_eq, ↓reduceIte, Nat.reduceEqDiff, not_false_eq_true, Nat.reduceAdd, reduceCtorEq, List.getElem?_cons_zero, List.getElem?_cons_succ, List.map_cons, List.map_nil, List.append_nil, List.nil_append, Bool.not_eq_eq_eq_not, Bool.not_true, ne_eq, decide_eq_false_iff_not, fa_ptr T73 p73_3 (by decide), load_p1 T71 a71, loadc_def, load_p1 T82 a82, fa_ptr T84 p84_3 (by decide), load_p1 T3 a3, hp, g1, g2, g3, g4, hn, hn2, k43, callV_fn (g := 43) (by decide)]
end Go.AM.X
