/- The document's printer in memory. Own work. -/
import Derived.Test.YtleefbnanliliaaDoorPpgJ
namespace Go.AM.X
open Go Go.AM Go.Proofs Go.AM.Sx
set_option maxHeartbeats 1600000
set_option maxRecDepth 100000
set_option linter.unusedVariables false
/-- Bytes that nobody writes any more. -/
def ImD (h : AH) (off : Nat → Prop) (v : AV) (bs : List Int) : Prop := Dat h v bs ∧ ∀ b o l k z x, v = .sl b o l k z x → off b
def ImG (h : AH) (off : Nat → Prop) (v : AV) (n : Nat) (cs : List AV) : Prop := RowG 2 h v n cs ∧ ∀ b o l k z x, v = .sl b o l k z x → off b
theorem ImD.stf {h h2 : AH} {o o2 : Nat → Prop} {v : AV} {bs : List Int} (hd : ImD h o v bs) (hS : Stf h h2 o o2) : ImD h2 o2 v bs :=
  ⟨hd.1.keep hS.1 fun b o' l k z x e => (hS.2 b (RowC.lt hd.1 e) (hd.2 _ _ _ _ _ _ e)).1, fun b o' l k z x e => (hS.2 b (RowC.lt hd.1 e) (hd.2 _ _ _ _ _ _ e)).2⟩
theorem ImG.stf {h h2 : AH} {o o2 : Nat → Prop} {v : AV} {n : Nat} {cs : List AV} (hd : ImG h o v n cs) (hS : Stf h h2 o o2) : ImG h2 o2 v n cs :=
  ⟨hd.1.keep hS.1 fun b o' l k z x e => (hS.2 b (hd.1.lt e) (hd.2 _ _ _ _ _ _ e)).1, fun b o' l k z x e => (hS.2 b (hd.1.lt e) (hd.2 _ _ _ _ _ _ e)).2⟩
theorem ImD.nil (h : AH) (o : Nat → Prop) : ImD h o .nils [] := ⟨RowC.nil _ _, fun b o l k z x e => by cases e⟩
theorem ImG.nil (h : AH) (o : Nat → Prop) : ImG h o .nils 0 [] := ⟨RowG.nil _ _, fun b o l k z x e => by cases e⟩
/-- One that waits, as a client. -/
def rcw (w : Wt) : Rc := ⟨w.c, w.w, 0, 0, false, .nils, [], w.b⟩
/-- The document's printer. -/
structure Rf where
  q : Int
  r : Int
  sv : AV
  wv : AV
  jv : AV
  qv : AV
  ap : Int
  sq : Int
  ss : List Rc
  ws : List Wt
  js : List Jb
  qs : List Jb
def Rf.cs (R : Rf) : List AV := [.int .i64 R.q, .int .i64 R.r, R.sv, R.wv, R.jv, R.qv, .int .i64 R.ap, .int .i64 R.sq]
def Rf.off (R : Rf) (p : Nat) (c : Nat) : Prop := c ≠ p ∧ offRow R.sv c ∧ offRow R.wv c
structure OkR (h : AH) (p : Nat) (R : Rf) : Prop where
  g : h.get p = some (.cells R.cs .own)
  lt : p < h.next
  s : RowC 7 h R.sv R.ss.length (rcs R.ss)
  w : RowC 7 h R.wv R.ws.length (rcs (R.ws.map rcw))
  sp : offRow R.sv p
  wp : offRow R.wv p
  sw : Apt (offRow R.sv) (offRow R.wv)
  j : ImG h (R.off p) R.jv R.js.length (jcs R.js)
  u : ImG h (R.off p) R.qv R.qs.length (jcs R.qs)
  jd : ∀ j ∈ R.js, ImD h (R.off p) j.d j.bs
  ud : ∀ j ∈ R.qs, ImD h (R.off p) j.d j.bs
  sd : ∀ c ∈ R.ss, ImD h (R.off p) c.dv c.d ∧ okB c.by_
  wd : ∀ w ∈ R.ws, okB w.b
theorem OkR.oneS {h : AH} {p : Nat} {R : Rf} (hR : OkR h p R) : ∀ c ∈ R.ss, c.av.all AV.one = true := fun c hc => by
  have h1 := (RowC.cells (hR.sd c hc).1.1).2
  have h2 := (hR.sd c hc).2.one.1
  simp only [Rc.av, List.all_cons, List.all_nil, h1, h2]; rfl
theorem OkR.oneW {h : AH} {p : Nat} {R : Rf} (hR : OkR h p R) : ∀ c ∈ R.ws.map rcw, c.av.all AV.one = true := fun c hc => by
  obtain ⟨w, hw, rfl⟩ := List.mem_map.1 hc
  have h2 := (hR.wd w hw).one.1
  simp only [Rc.av, rcw, List.all_cons, List.all_nil, h2]; rfl
theorem OkR.grow {h h2 : AH} {p : Nat} {R : Rf} (hR : OkR h p R) (hg : Grow h h2) : OkR h2 p R :=
  have hS := Stf.grow (R.off p) hg
  { g := by rw [hg.2 p hR.lt]; exact hR.g, lt := Nat.lt_of_lt_of_le hR.lt hg.1, s := hR.s.grow hg, w := hR.w.grow hg, sp := hR.sp, wp := hR.wp, sw := hR.sw, j := hR.j.stf hS, u := hR.u.stf hS, jd := fun j hj => (hR.jd j hj).stf hS, ud := fun j hj => (hR.ud j hj).stf hS, sd := fun c hc => ⟨(hR.sd c hc).1.stf hS, (hR.sd c hc).2⟩, wd := hR.wd }
/-- The served ones are a new row. -/
theorem OkR.setS {h h1 : AH} {p : Nat} {R : Rf} {v : AV} {l : List Rc} (hR : OkR h p R) (hg : Grow h h1) (hr : RowC 7 h1 v l.length (rcs l)) (hf : Fresh h v) (hm : ∀ c ∈ l, okB c.by_ ∧ ((c.dv = .nils ∧ c.d = []) ∨ ∃ c0 ∈ R.ss, c.dv = c0.dv ∧ c.d = c0.d)) :
    OkR (h1.put p (.cells ({ R with sv := v, ss := l } : Rf).cs .own)) p { R with sv := v, ss := l } ∧ Stf h (h1.put p (.cells ({ R with sv := v, ss := l } : Rf).cs .own)) (R.off p) (({ R with sv := v, ss := l } : Rf).off p) := by
  have hlt := hR.lt
  have hS : Stf h (h1.put p (.cells ({ R with sv := v, ss := l } : Rf).cs .own)) (R.off p) (({ R with sv := v, ss := l } : Rf).off p) :=
    ⟨hg.1, fun c hc ho => ⟨by rw [AH.get_put, if_neg ho.1, hg.2 c hc], ho.1, hf.off hc, ho.2.2⟩⟩
  refine ⟨{ g := by rw [AH.get_put, if_pos rfl], lt := Nat.lt_of_lt_of_le hlt hg.1, s := hr.keep (Nat.le_refl _) fun b o l k z x e => by rw [AH.get_put, if_neg (by have := hf _ _ _ _ _ _ e; omega)], w := hR.w.keep hg.1 fun b o l k z x e => ?_, sp := hf.off hlt, wp := hR.wp, sw := fun c => ?_, j := hR.j.stf hS, u := hR.u.stf hS, jd := fun j hj => (hR.jd j hj).stf hS, ud := fun j hj => (hR.ud j hj).stf hS, sd := fun c hc => ?_, wd := hR.wd }, hS⟩
  · rw [AH.get_put, if_neg (fun g => hR.wp _ _ _ _ _ _ e g.symm), hg.2 b (hR.w.lt e)]
  · rcases Nat.lt_or_ge c h.next with hc | hc
    · exact .inl (hf.off hc)
    · exact .inr fun b o l k z x e => by have := hR.w.lt e; omega
  · obtain ⟨h1', h2' | ⟨c0, hc0, e1, e2⟩⟩ := hm c hc
    · rw [h2'.1, h2'.2]; exact ⟨ImD.nil _ _, h1'⟩
    · rw [e1, e2]; exact ⟨(hR.sd c0 hc0).1.stf hS, h1'⟩
/-- Those that wait are a new row. -/
theorem OkR.setW {h h1 : AH} {p : Nat} {R : Rf} {v : AV} {l : List Wt} (hR : OkR h p R) (hg : Grow h h1) (hr : RowC 7 h1 v l.length (rcs (l.map rcw))) (hf : Fresh h v) (hm : ∀ w ∈ l, okB w.b) :
    OkR (h1.put p (.cells ({ R with wv := v, ws := l } : Rf).cs .own)) p { R with wv := v, ws := l } ∧ Stf h (h1.put p (.cells ({ R with wv := v, ws := l } : Rf).cs .own)) (R.off p) (({ R with wv := v, ws := l } : Rf).off p) := by
  have hlt := hR.lt
  have hS : Stf h (h1.put p (.cells ({ R with wv := v, ws := l } : Rf).cs .own)) (R.off p) (({ R with wv := v, ws := l } : Rf).off p) :=
    ⟨hg.1, fun c hc ho => ⟨by rw [AH.get_put, if_neg ho.1, hg.2 c hc], ho.1, ho.2.1, hf.off hc⟩⟩
  refine ⟨{ g := by rw [AH.get_put, if_pos rfl], lt := Nat.lt_of_lt_of_le hlt hg.1, w := hr.keep (Nat.le_refl _) fun b o l k z x e => by rw [AH.get_put, if_neg (by have := hf _ _ _ _ _ _ e; omega)], s := hR.s.keep hg.1 fun b o l k z x e => ?_, wp := hf.off hlt, sp := hR.sp, sw := fun c => ?_, j := hR.j.stf hS, u := hR.u.stf hS, jd := fun j hj => (hR.jd j hj).stf hS, ud := fun j hj => (hR.ud j hj).stf hS, sd := fun c hc => ⟨(hR.sd c hc).1.stf hS, (hR.sd c hc).2⟩, wd := hm }, hS⟩
  · rw [AH.get_put, if_neg (fun g => hR.sp _ _ _ _ _ _ e g.symm), hg.2 b (hR.s.lt e)]
  · rcases Nat.lt_or_ge c h.next with hc | hc
    · exact .inr (hf.off hc)
    · exact .inl fun b o l k z x e => by have := hR.s.lt e; omega
/-- Where it is in the queue's first job. -/
theorem OkR.setA {h : AH} {p : Nat} {R : Rf} (a n : Int) (hR : OkR h p R) : OkR (h.put p (.cells ({ R with ap := a, sq := n } : Rf).cs .own)) p { R with ap := a, sq := n } ∧ Stf h (h.put p (.cells ({ R with ap := a, sq := n } : Rf).cs .own)) (R.off p) (({ R with ap := a, sq := n } : Rf).off p) := by
  have hS : Stf h (h.put p (.cells ({ R with ap := a, sq := n } : Rf).cs .own)) (R.off p) (({ R with ap := a, sq := n } : Rf).off p) := ⟨Nat.le_refl _, fun c hc ho => ⟨by rw [AH.get_put, if_neg ho.1], ho⟩⟩
  exact ⟨{ g := by rw [AH.get_put, if_pos rfl], lt := hR.lt, s := hR.s.keep (Nat.le_refl _) fun b o l k z x e => (by rw [AH.get_put, if_neg (fun g => hR.sp _ _ _ _ _ _ e g.symm)]), w := hR.w.keep (Nat.le_refl _) fun b o l k z x e => (by rw [AH.get_put, if_neg (fun g => hR.wp _ _ _ _ _ _ e g.symm)]), sp := hR.sp, wp := hR.wp, sw := hR.sw, j := hR.j.stf hS, u := hR.u.stf hS, jd := fun j hj => (hR.jd j hj).stf hS, ud := fun j hj => (hR.ud j hj).stf hS, sd := fun c hc => ⟨(hR.sd c hc).1.stf hS, (hR.sd c hc).2⟩, wd := hR.wd }, hS⟩
theorem OkR.new (h : AH) (q r : Int) : OkR (h.alloc (.cells (⟨q, r, .nils, .nils, .nils, .nils, 0, 0, [], [], [], []⟩ : Rf).cs .own)) h.next ⟨q, r, .nils, .nils, .nils, .nils, 0, 0, [], [], [], []⟩ :=
  { g := by rw [AH.get_alloc, if_pos rfl], lt := by simp, s := RowC.nil _ _, w := RowC.nil _ _, sp := fun b o l k z x e => (by cases e), wp := fun b o l k z x e => (by cases e), sw := fun c => .inl fun b o l k z x e => (by cases e), j := ImG.nil _ _, u := ImG.nil _ _, jd := fun j hj => (by cases hj), ud := fun j hj => (by cases hj), sd := fun j hj => (by cases hj), wd := fun j hj => by cases hj }
/-- What is never written again. -/
def Rf.im (R : Rf) : List AV := R.jv :: R.qv :: (R.js.map Jb.d ++ (R.qs.map Jb.d ++ R.ss.map Rc.dv))
def Rf.offF (R : Rf) (p : Nat) (c : Nat) : Prop := R.off p c ∧ ∀ v ∈ R.im, offRow v c
def Ext (h : AH) (R R2 : Rf) : Prop := ∀ v ∈ R2.im, ∀ b o l k z x, v = .sl b o l k z x → h.next ≤ b ∨ ∃ v0 ∈ R.im, ∃ o l k z x, v0 = .sl b o l k z x
theorem Ext.sub {h : AH} {R R2 : Rf} (hs : ∀ v ∈ R2.im, v ∈ R.im ∨ v = .nils) : Ext h R R2 := fun v hv b o l k z x e => by
  rcases hs v hv with g | g
  · exact .inr ⟨v, g, _, _, _, _, _, e⟩
  · rw [g] at e; cases e
theorem Ext.refl (h : AH) (R : Rf) : Ext h R R := Ext.sub fun v hv => .inl hv
theorem Ext.trans {h h2 : AH} {R R2 R3 : Rf} (a : Ext h R R2) (hn : h.next ≤ h2.next) (b : Ext h2 R2 R3) : Ext h R R3 := fun v hv bb o l k z x e => by
  rcases b v hv _ _ _ _ _ _ e with g | ⟨v0, h0, _, _, _, _, _, e0⟩
  · exact .inl (by omega)
  · exact a v0 h0 _ _ _ _ _ _ e0
theorem stfF {h h2 : AH} {p : Nat} {R R2 : Rf} (hS : Stf h h2 (R.off p) (R2.off p)) (he : Ext h R R2) : Stf h h2 (R.offF p) (R2.offF p) :=
  ⟨hS.1, fun c hc ho => ⟨(hS.2 c hc ho.1).1, (hS.2 c hc ho.1).2, fun v hv b o l k z x e g => by
    rcases he v hv _ _ _ _ _ _ e with h' | ⟨v0, h0, _, _, _, _, _, e0⟩
    · omega
    · exact ho.2 v0 h0 _ _ _ _ _ _ e0 g⟩⟩
theorem im_ss {R : Rf} {v : AV} {l : List Rc} {w : AV} (h : w ∈ ({ R with sv := v, ss := l } : Rf).im) : w ∈ R.im ∨ w ∈ l.map Rc.dv := by
  simp only [Rf.im, List.mem_cons, List.mem_append] at h ⊢
  rcases h with h | h | h | h | h
  · exact .inl (.inl h)
  · exact .inl (.inr (.inl h))
  · exact .inl (.inr (.inr (.inl h)))
  · exact .inl (.inr (.inr (.inr (.inl h))))
  · exact .inr h
theorem im_dv {R : Rf} {c : Rc} (h : c ∈ R.ss) : c.dv ∈ R.im := by
  simp only [Rf.im, List.mem_cons, List.mem_append]
  exact .inr (.inr (.inr (.inr (List.mem_map_of_mem h))))
theorem Ext.setS {h : AH} {R : Rf} {v : AV} {l : List Rc} (hm : ∀ c ∈ l, c.dv = .nils ∨ ∃ c0 ∈ R.ss, c.dv = c0.dv) : Ext h R { R with sv := v, ss := l } := Ext.sub fun w hw => by
  rcases im_ss hw with g | g
  · exact .inl g
  · obtain ⟨c, hc, rfl⟩ := List.mem_map.1 g
    rcases hm c hc with e | ⟨c0, h0, e⟩
    · exact .inr e
    · rw [e]; exact .inl (im_dv h0)
theorem OkR.im_lt {h : AH} {p : Nat} {R : Rf} (hR : OkR h p R) {v : AV} (hv : v ∈ R.im) {b o l k z : Nat} {x : Bool} (e : v = .sl b o l k z x) : b < h.next ∧ R.off p b := by
  simp only [Rf.im, List.mem_cons, List.mem_append, List.mem_map] at hv
  rcases hv with rfl | rfl | ⟨j, hj, rfl⟩ | ⟨j, hj, rfl⟩ | ⟨c, hc, rfl⟩
  · exact ⟨hR.j.1.lt e, hR.j.2 _ _ _ _ _ _ e⟩
  · exact ⟨hR.u.1.lt e, hR.u.2 _ _ _ _ _ _ e⟩
  · exact ⟨RowC.lt (hR.jd j hj).1 e, (hR.jd j hj).2 _ _ _ _ _ _ e⟩
  · exact ⟨RowC.lt (hR.ud j hj).1 e, (hR.ud j hj).2 _ _ _ _ _ _ e⟩
  · exact ⟨RowC.lt (hR.sd c hc).1.1 e, (hR.sd c hc).1.2 _ _ _ _ _ _ e⟩
/-! Places left out. -/
structure Ts where
  c : Int
  s : Int
  n : Int
  k : Bool
  d : List Int
  b : AV
structure Tp where
  q : Int
  r : Int
  ap : Int
  sq : Int
  ws : List Wt
  ss : List Ts
  js : List (Int × List Int)
  qs : List (Int × List Int)
def tc (c : Rc) : Ts := ⟨c.who, c.si, c.nx, c.tk, c.d, c.by_⟩
def tp (R : Rf) : Tp := ⟨R.q, R.r, R.ap, R.sq, R.ws, R.ss.map tc, R.js.map jv, R.qs.map jv⟩
def OkT (h : AH) (p : Nat) (Q : Tp) (off : Nat → Prop) : Prop := ∃ R, OkR h p R ∧ Q = tp R ∧ off = R.offF p
theorem OkT.grow {h h2 : AH} {p : Nat} {Q : Tp} {off : Nat → Prop} (hQ : OkT h p Q off) (hg : Grow h h2) : OkT h2 p Q off := by
  obtain ⟨R, h1, h3, h4⟩ := hQ
  exact ⟨R, h1.grow hg, h3, h4⟩
theorem OkT.off_ge {h : AH} {p : Nat} {Q : Tp} {off : Nat → Prop} (hQ : OkT h p Q off) {c : Nat} (hc : h.next ≤ c) : off c := by
  obtain ⟨R, h1, h3, rfl⟩ := hQ
  exact ⟨⟨by have := h1.lt; omega, fun b o l k z x e => by have := h1.s.lt e; omega, fun b o l k z x e => by have := h1.w.lt e; omega⟩, fun v hv b o l k z x e => by have := (h1.im_lt hv e).1; omega⟩
def inS (ss : List Ts) (w : Int) : Option Nat := ss.findIdx? fun s => decide (s.c = w)
def inW (ws : List Wt) (w : Int) : Option Nat := ws.findIdx? (pW w)
def ixO : Option Nat → Int
  | some i => (i : Int)
  | none => -1
theorem ixO_neg {o : Option Nat} : (0 ≤ ixO o) = (o ≠ none) := by
  cases o with
  | none => simp [ixO]
  | some i => simp [ixO]
theorem at_ss (l : List Rc) (w : Int) : atR l w = ixO (inS (l.map tc) w) := by
  unfold atR inS
  rw [List.findIdx?_map]
  have : (fun s : Ts => decide (s.c = w)) ∘ tc = fun c : Rc => decide (c.who = w) := rfl
  rw [this]
  cases l.findIdx? fun c => decide (c.who = w) <;> rfl
theorem at_ws (l : List Wt) (w : Int) : atR (l.map rcw) w = ixO (inW l w) := by
  unfold atR inW
  rw [List.findIdx?_map]
  have : (fun c : Rc => decide (c.who = w)) ∘ rcw = pW w := rfl
  rw [this]
  cases l.findIdx? (pW w) <;> rfl
/-- All that is in a part of the printer is as it was. -/
theorem OkT.keep {h h2 : AH} {p : Nat} {Q : Tp} {off : Nat → Prop} (hQ : OkT h p Q off) (hn : h.next ≤ h2.next) (hk : ∀ c, c < h.next → ¬ off c → h2.get c = h.get c) : OkT h2 p Q off := by
  obtain ⟨R, hR, h3, rfl⟩ := hQ
  have kM : ∀ c, c < h.next → ¬ R.off p c → h2.get c = h.get c := fun c hc ho => hk c hc fun g => ho g.1
  have kI : ∀ v ∈ R.im, ∀ b o l k z x, v = .sl b o l k z x → h2.get b = h.get b := fun v hv b o l k z x e => hk b (hR.im_lt hv e).1 fun g => g.2 v hv _ _ _ _ _ _ e rfl
  have mj : R.jv ∈ R.im := by simp [Rf.im]
  have mq : R.qv ∈ R.im := by simp [Rf.im]
  have mjd : ∀ j ∈ R.js, j.d ∈ R.im := fun j hj => by simp only [Rf.im, List.mem_cons, List.mem_append]; exact .inr (.inr (.inl (List.mem_map_of_mem hj)))
  have mud : ∀ j ∈ R.qs, j.d ∈ R.im := fun j hj => by simp only [Rf.im, List.mem_cons, List.mem_append]; exact .inr (.inr (.inr (.inl (List.mem_map_of_mem hj))))
  refine ⟨R, { g := by rw [kM p hR.lt (fun g => g.1 rfl)]; exact hR.g, lt := Nat.lt_of_lt_of_le hR.lt hn, s := hR.s.keep hn fun b o l k z x e => kM b (hR.s.lt e) fun g => g.2.1 _ _ _ _ _ _ e rfl, w := hR.w.keep hn fun b o l k z x e => kM b (hR.w.lt e) fun g => g.2.2 _ _ _ _ _ _ e rfl, sp := hR.sp, wp := hR.wp, sw := hR.sw, j := ⟨hR.j.1.keep hn (kI _ mj), hR.j.2⟩, u := ⟨hR.u.1.keep hn (kI _ mq), hR.u.2⟩, jd := fun j hj => ⟨(hR.jd j hj).1.keep hn (kI _ (mjd j hj)), (hR.jd j hj).2⟩, ud := fun j hj => ⟨(hR.ud j hj).1.keep hn (kI _ (mud j hj)), (hR.ud j hj).2⟩, sd := fun c hc => ⟨⟨(hR.sd c hc).1.1.keep hn (kI _ (im_dv hc)), (hR.sd c hc).1.2⟩, (hR.sd c hc).2⟩, wd := hR.wd }, h3, rfl⟩
theorem OkT.other {h h2 : AH} {p : Nat} {Q : Tp} {off o o2 : Nat → Prop} (hQ : OkT h p Q off) (hA : Apt o off) (hS : Stf h h2 o o2) : OkT h2 p Q off ∧ Apt o2 off :=
  ⟨hQ.keep hS.1 fun c hc hn => (hS.2 c hc ((hA c).resolve_right hn)).1, hA.step hS fun c hc => hQ.off_ge hc⟩
theorem Pc.sub {h : AH} {R : Rf} {p : Nat} {x : AV} {new : List Int} (hx : Pc (R.offF p) h x new) : Pc (R.off p) h x new :=
  ⟨hx.1, fun h2 hn hk => hx.2 h2 hn fun c hc ho => hk c hc ho.1⟩
end Go.AM.X
namespace Go.AM.X
open Go Go.AM Go.Proofs Go.AM.Sx
set_option maxHeartbeats 1600000
set_option maxRecDepth 100000
set_option linter.unusedVariables false
theorem F62 : F 62 = some { body := (Tryd.f62.body.getD .skip), results := Tryd.f62.results.toList, rf := false } := by kernel_rfl
theorem R62 : regsOk T (Tryd.f62.body.getD .skip) = true := by kernel_rfl
theorem F46 : F 46 = some { body := (Tryd.f46.body.getD .skip), results := Tryd.f46.results.toList, rf := false } := by kernel_rfl
theorem R46 : regsOk T (Tryd.f46.body.getD .skip) = true := by kernel_rfl
theorem F47 : F 47 = some { body := (Tryd.f47.body.getD .skip), results := Tryd.f47.results.toList, rf := false } := by kernel_rfl
theorem R47 : regsOk T (Tryd.f47.body.getD .skip) = true := by kernel_rfl
theorem F52 : F 52 = some { body := (Tryd.f52.body.getD .skip), results := Tryd.f52.results.toList, rf := false } := by kernel_rfl
theorem R52 : regsOk T (Tryd.f52.body.getD .skip) = true := by kernel_rfl
theorem F53 : F 53 = some { body := (Tryd.f53.body.getD .skip), results := Tryd.f53.results.toList, rf := false } := by kernel_rfl
theorem R53 : regsOk T (Tryd.f53.body.getD .skip) = true := by kernel_rfl
theorem F55 : F 55 = some { body := (Tryd.f55.body.getD .skip), results := Tryd.f55.results.toList, rf := false } := by kernel_rfl
theorem R55 : regsOk T (Tryd.f55.body.getD .skip) = true := by kernel_rfl
theorem F54 : F 54 = some { body := (Tryd.f54.body.getD .skip), results := Tryd.f54.results.toList, rf := false } := by kernel_rfl
theorem R54 : regsOk T (Tryd.f54.body.getD .skip) = true := by kernel_rfl
theorem F40 : F 40 = some { body := (Tryd.f40.body.getD .skip), results := Tryd.f40.results.toList, rf := false } := by kernel_rfl
theorem R40 : regsOk T (Tryd.f40.body.getD .skip) = true := by kernel_rfl
theorem F41 : F 41 = some { body := (Tryd.f41.body.getD .skip), results := Tryd.f41.results.toList, rf := false } := by kernel_rfl
theorem R41 : regsOk T (Tryd.f41.body.getD .skip) = true := by kernel_rfl
def wantET (Q : Tp) (w : Wt) : Int := if inS Q.ss w.c ≠ none ∨ inW Q.ws w.c ≠ none then 8 else if 100 ≤ Q.ws.length then 4 else 0
def wantPT (Q : Tp) (w : Wt) : List Wt := if wantET Q w = 0 then Q.ws ++ [w] else Q.ws
theorem L62 {I : Nat → Option (List AV → AH → Rs)} (h63 : I 63 = none) (h62 : I 62 = none) (m p : Nat) (w : Wt) (Q : Tp) (off : Nat → Prop) (h : AH) (hQ : OkT h p Q off) (hwb : okB w.b) (hn : Q.ws.length ≤ 200 ∧ Q.ss.length ≤ 200) :
    ∃ h2 off2, call F I T (m + 300) 62 [.ptr p 0, .agg [.int .i64 w.c, .int .i64 w.w, .int .i64 0, .int .i64 0, .bool false, .nils, w.b]] h = some (.int .i64 (wantET Q w), h2) ∧ OkT h2 p { Q with ws := wantPT Q w } off2 ∧ Stf h h2 off off2 := by
  obtain ⟨R, hR, rfl, rfl⟩ := hQ
  have hsl : R.ss.length ≤ 200 := by have := hn.2; rw [show (tp R).ss = R.ss.map tc from rfl, List.length_map] at this; exact this
  have hwl : R.ws.length ≤ 200 := hn.1
  obtain ⟨H1, hH1⟩ : ∃ H1, H1 = h.alloc (.cells [.int .i64 w.c, .int .i64 w.w, .int .i64 0, .int .i64 0, .bool false, .nils, w.b] .own) := ⟨_, rfl⟩
  have hg1 : Grow h H1 := by rw [hH1]; exact Grow.alloc _ _
  have hR1 := hR.grow hg1
  have hp1 : H1.get p = some (.cells [.int .i64 R.q, .int .i64 R.r, R.sv, R.wv, R.jv, R.qv, .int .i64 R.ap, .int .i64 R.sq] .own) := hR1.g
  have hb1 : H1.get h.next = some (.cells [.int .i64 w.c, .int .i64 w.w, .int .i64 0, .int .i64 0, .bool false, .nils, w.b] .own) := by rw [hH1, AH.get_alloc, if_pos rfl]
  have k1 := run63 h63 (m + 279) R.sv R.ss w.c H1 hR1.s ⟨by omega, by omega⟩
  have hw1 := hR1.w
  have hwl' : (R.ws.map rcw).length = R.ws.length := List.length_map ..
  rw [← hwl'] at hw1
  have k2 := run63 h63 (m + 279) R.wv (R.ws.map rcw) w.c H1 hw1 ⟨by omega, by omega⟩
  rw [at_ss] at k1
  rw [at_ws] at k2
  have hlen : ∀ h, aLen T 101 R.wv h = some (.int .i64 (R.ws.length : Nat)) := fun h => hR.w.len T101 d101
  have e1 : wantET (tp R) w = if inS (R.ss.map tc) w.c ≠ none ∨ inW R.ws w.c ≠ none then 8 else if 100 ≤ R.ws.length then 4 else 0 := rfl
  have bad : ∀ (er : Int), wantET (tp R) w = er → er ≠ 0 → OkT H1 p { tp R with ws := wantPT (tp R) w } (R.offF p) ∧ Stf h H1 (R.offF p) (R.offF p) := fun er he hn => by
    have : wantPT (tp R) w = (tp R).ws := by unfold wantPT; rw [if_neg (by rw [he]; exact hn)]
    rw [this]
    exact ⟨⟨R, hR1, rfl, rfl⟩, Stf.grow _ hg1⟩
  by_cases c1 : 0 ≤ ixO (inS (R.ss.map tc) w.c)
  · have he : wantET (tp R) w = 8 := by rw [e1, if_pos (.inl (by rw [← ixO_neg]; exact c1))]
    obtain ⟨b1, b2⟩ := bad 8 he (by decide)
    rw [he]
    refine ⟨H1, _, ?_, b1, b2⟩
    rw [call_F (by decide) h62 F62 rfl R62]; simp only [Tryd.f62, Option.getD]
    simp +contextual (maxSteps := 3000000) only [↓code_seq, ↓code_region, ↓code_cond, ↓code_block, ↓code_ret, aCond_bool, ↓ops_nil, ↓ops_cons, run_none, run_someF, ↓run0_v, ↓run0_r, ↓seqK_normal, ↓seqK_ret, ↓blkK_ret, ↓retK_ret, put_same, put_ne, env0_at, ev_tmp, ev_const, ev_func, oc_int, oc_bool, o_move, o_assign, o_pick, o_bin, o_call, o_box, o_load, o_nilCheck, o_fieldAddr, g_none, g_some, pick_bool, bin_geq, nil_ptr, resultsOf, oneOrAll, Option.bind_some, Option.map_some, Option.getD_some, decide_eq_true_eq, ↓reduceIte, Nat.reduceEqDiff, not_false_eq_true, Nat.reduceAdd, reduceCtorEq, List.getElem?_cons_zero, List.getElem?_cons_succ, List.getElem?_toArray, List.map_cons, List.map_nil, List.append_nil, List.nil_append, ge_iff_le, ne_eq, box_agg, fa_ptr T103 p103_2 (by decide), load_p1 T101 a101, loadc_def, fa_ptr T106 p106_0 (by decide), load_p1 T3 a3, ← hH1, hp1, hb1, k1, c1, callV_fn (g := 63) (by decide)]
  have n1 : inS (R.ss.map tc) w.c = none := Decidable.byContradiction fun g => c1 (by rw [ixO_neg]; exact g)
  by_cases c2 : 0 ≤ ixO (inW R.ws w.c)
  · have he : wantET (tp R) w = 8 := by rw [e1, if_pos (.inr (by rw [← ixO_neg]; exact c2))]
    obtain ⟨b1, b2⟩ := bad 8 he (by decide)
    rw [he]
    refine ⟨H1, _, ?_, b1, b2⟩
    rw [call_F (by decide) h62 F62 rfl R62]; simp only [Tryd.f62, Option.getD]
    simp +contextual (maxSteps := 3000000) only [↓code_seq, ↓code_region, ↓code_cond, ↓code_block, ↓code_ret, aCond_bool, ↓ops_nil, ↓ops_cons, run_none, run_someF, ↓run0_v, ↓run0_r, ↓seqK_normal, ↓seqK_ret, ↓blkK_ret, ↓retK_ret, put_same, put_ne, env0_at, ev_tmp, ev_const, ev_func, oc_int, oc_bool, o_move, o_assign, o_pick, o_bin, o_call, o_box, o_load, o_nilCheck, o_fieldAddr, g_none, g_some, pick_bool, bin_geq, nil_ptr, resultsOf, oneOrAll, Option.bind_some, Option.map_some, Option.getD_some, decide_eq_true_eq, ↓reduceIte, Nat.reduceEqDiff, not_false_eq_true, Nat.reduceAdd, reduceCtorEq, List.getElem?_cons_zero, List.getElem?_cons_succ, List.getElem?_toArray, List.map_cons, List.map_nil, List.append_nil, List.nil_append, ge_iff_le, ne_eq, box_agg, fa_ptr T103 p103_2 (by decide), load_p1 T101 a101, loadc_def, fa_ptr T106 p106_0 (by decide), load_p1 T3 a3, fa_ptr T103 p103_3 (by decide), ← hH1, hp1, hb1, k1, k2, c1, c2, callV_fn (g := 63) (by decide)]
  have n2 : inW R.ws w.c = none := Decidable.byContradiction fun g => c2 (by rw [ixO_neg]; exact g)
  by_cases c3 : (100 : Int) ≤ (R.ws.length : Int)
  · have he : wantET (tp R) w = 4 := by rw [e1, if_neg (by simp [n1, n2]), if_pos (by omega)]
    obtain ⟨b1, b2⟩ := bad 4 he (by decide)
    rw [he]
    refine ⟨H1, _, ?_, b1, b2⟩
    rw [call_F (by decide) h62 F62 rfl R62]; simp only [Tryd.f62, Option.getD]
    simp +contextual (maxSteps := 3000000) only [↓code_seq, ↓code_region, ↓code_cond, ↓code_block, ↓code_ret, aCond_bool, ↓ops_nil, ↓ops_cons, run_none, run_someF, ↓run0_v, ↓run0_r, ↓seqK_normal, ↓seqK_ret, ↓blkK_ret, ↓retK_ret, put_same, put_ne, env0_at, ev_tmp, ev_const, ev_func, oc_int, oc_bool, o_move, o_assign, o_pick, o_bin, o_call, o_len, o_box, o_load, o_nilCheck, o_fieldAddr, g_none, g_some, pick_bool, bin_geq, nil_ptr, resultsOf, oneOrAll, Option.bind_some, Option.map_some, Option.getD_some, decide_eq_true_eq, ↓reduceIte, Nat.reduceEqDiff, not_false_eq_true, Nat.reduceAdd, reduceCtorEq, List.getElem?_cons_zero, List.getElem?_cons_succ, List.getElem?_toArray, List.map_cons, List.map_nil, List.append_nil, List.nil_append, ge_iff_le, ne_eq, box_agg, fa_ptr T103 p103_2 (by decide), load_p1 T101 a101, loadc_def, fa_ptr T106 p106_0 (by decide), load_p1 T3 a3, fa_ptr T103 p103_3 (by decide), ← hH1, hp1, hb1, k1, k2, c1, c2, c3, hlen, callV_fn (g := 63) (by decide)]
  have he : wantET (tp R) w = 0 := by rw [e1, if_neg (by simp [n1, n2]), if_neg (by omega)]
  have hcut := (hR.w.toG (by decide)).cut T101 d101 T106 s106
  obtain ⟨v', H2, q1, q2, q3, q4⟩ := (hR1.w.toG (by decide)).pushX (new := [.int .i64 w.c, .int .i64 w.w, .int .i64 0, .int .i64 0, .bool false, .nils, w.b]) T101 d101 T106 s106 (by decide) (by rw [b106]; decide) rfl
    (by have := hwb.one.1; simp only [List.all_cons, List.all_nil, this]; rfl) (by rw [b106]; simp [maxBytes]; omega)
  have hcs : rcs (R.ws.map rcw) ++ [.int .i64 w.c, .int .i64 w.w, .int .i64 0, .int .i64 0, .bool false, .nils, w.b] = rcs ((R.ws ++ [w]).map rcw) := by rw [List.map_append, rcs, rcs, fl_app]; simp [fl, Rc.av, rcw]
  rw [hcs, show R.ws.length + 1 = (R.ws ++ [w]).length by simp] at q2
  obtain ⟨hR2, hS2⟩ := hR.setW (v := v') (l := R.ws ++ [w]) (hg1.trans q4) q2 (fun b o l k z x e => Nat.le_trans hg1.1 (q3 _ _ _ _ _ _ e)) (fun x hx => by
    rcases List.mem_append.1 hx with g | g
    · exact hR.wd x g
    · rw [List.mem_singleton.1 g]; exact hwb)
  have hp2 : H2.get p = some (.cells R.cs .own) := by rw [q4.2 p hR1.lt]; exact hR1.g
  have hst : aStore T 101 (.ptr p 3) v' H2 = some (H2.put p (.cells ({ R with wv := v', ws := R.ws ++ [w] } : Rf).cs .own)) :=
    store_1 (cs := R.cs) T101 s101 (RowC.cells q2).1 (RowC.cells q2).2 hp2 (by simp [Rf.cs])
  rw [he]
  refine ⟨_, _, ?_, ⟨_, hR2, ?_, rfl⟩, stfF hS2 (Ext.sub fun v hv => .inl hv)⟩
  · rw [call_F (by decide) h62 F62 rfl R62]; simp only [Tryd.f62, Option.getD]
    simp +contextual (maxSteps := 3000000) only [↓code_skip, ↓code_seq, ↓code_region, ↓code_cond, ↓code_block, ↓code_ret, aCond_bool, ↓ops_nil, ↓ops_cons, run_none, run_someF, ↓run0_v, ↓run0_h, ↓run0_r, ↓seqK_normal, ↓blkK_normal, ↓retK_ret, put_same, put_ne, put_none, env0_at, ev_tmp, ev_const, ev_func, oc_int, oc_bool, o_move, o_assign, o_pick, o_bin, o_call, o_len, o_box, o_buildSlice, o_load, o_store, o_nilCheck, o_slice, o_fieldAddr, o_append, g_none, g_some, pick_bool, bin_geq, nil_ptr, resultsOf, oneOrAll, Option.bind_some, Option.map_some, Option.map_none, Option.getD_some, decide_eq_true_eq, ↓reduceIte, Nat.reduceEqDiff, not_false_eq_true, Nat.reduceAdd, Nat.reduceMul, reduceCtorEq, List.getElem?_cons_zero, List.getElem?_cons_succ, List.getElem?_toArray, List.map_cons, List.map_nil, List.append_nil, List.nil_append, and_true, Nat.le_refl, ge_iff_le, ne_eq, box_agg, fa_ptr T103 p103_2 (by decide), load_p1 T101 a101, loadc_def, fa_ptr T106 p106_0 (by decide), load_p1 T3 a3, fa_ptr T103 p103_3 (by decide), load_pA T106 a106, s106, loadn_def, buildSl T101 d101 T106 (n := 1) (by rw [s106]; decide), z106, parts_eq, fillA, AV.cells, AH.splice, List.take_succ_cons, List.take_zero, List.take_nil, List.drop_succ_cons, List.drop_zero, List.drop_nil, List.length_cons, List.length_nil, repl, run0_h, List.length_cons, List.length_nil, List.drop_zero, List.take_succ_cons, List.take_zero, List.take_nil, Nat.zero_add, Nat.add_zero, ← hH1, hp1, hb1, k1, k2, c1, c2, c3, hlen, hcut, q1, hst, callV_fn (g := 63) (by decide)]
  · unfold wantPT; rw [if_pos he]; rfl
def WantET (Q : Tp) (c w : Int) : Int := if c < 1 ∨ within w 0 100000 = false then 2 else wantET Q ⟨c, w, .nilp⟩
def WantPT (Q : Tp) (c w : Int) : List Wt := if c < 1 ∨ within w 0 100000 = false then Q.ws else wantPT Q ⟨c, w, .nilp⟩
theorem L46 {I : Nat → Option (List AV → AH → Rs)} (h63 : I 63 = none) (h62 : I 62 = none) (h46 : I 46 = none) (m p : Nat) (c w : Int) (Q : Tp) (off : Nat → Prop) (h : AH) (hQ : OkT h p Q off) (hn : Q.ws.length ≤ 200 ∧ Q.ss.length ≤ 200) :
    ∃ h2 off2, call F I T (m + 301) 46 [.ptr p 0, .int .i64 c, .int .i64 w] h = some (.int .i64 (WantET Q c w), h2) ∧ OkT h2 p { Q with ws := WantPT Q c w } off2 ∧ Stf h h2 off off2 := by
  obtain ⟨h2, off2, q1, q2, q3⟩ := L62 h63 h62 m p ⟨c, w, .nilp⟩ Q off h hQ (.inl rfl) hn
  have same : ∀ er, WantET Q c w = 2 → er = 2 → WantPT Q c w = Q.ws → ∃ h2 off2, some (AV.int .i64 er, h) = some (.int .i64 (WantET Q c w), h2) ∧ OkT h2 p { Q with ws := WantPT Q c w } off2 ∧ Stf h h2 off off2 := fun er e1 e2 e3 => by
    rw [e1, e2, e3]; exact ⟨h, off, rfl, hQ, Stf.refl _ _⟩
  rw [call_F (by decide) h46 F46 rfl R46]; simp only [Tryd.f46, Option.getD]
  by_cases c1 : c < 1
  · simp +contextual (maxSteps := 3000000) only [↓code_seq, ↓code_region, ↓code_cond, ↓code_ret, aCond_bool, ↓ops_nil, ↓ops_cons, run_none, run_someF, ↓run0_v, ↓seqK_normal, ↓seqK_ret, ↓retK_ret, put_same, put_ne, env0_at, ev_tmp, ev_const, oc_int, oc_bool, o_move, o_assign, o_pick, o_bin, g_none, g_some, pick_bool, bin_lss, resultsOf, oneOrAll, Option.bind_some, Option.map_some, Option.getD_some, decide_eq_true_eq, ↓reduceIte, Nat.reduceEqDiff, not_false_eq_true, List.getElem?_cons_zero, List.getElem?_cons_succ, List.getElem?_toArray, ne_eq, c1]
    exact same 2 (by unfold WantET; rw [if_pos (.inl c1)]) rfl (by unfold WantPT; rw [if_pos (.inl c1)])
  by_cases c2 : w < 0
  · simp +contextual (maxSteps := 3000000) only [↓code_seq, ↓code_region, ↓code_cond, ↓code_ret, aCond_bool, ↓ops_nil, ↓ops_cons, run_none, run_someF, ↓run0_v, ↓seqK_normal, ↓seqK_ret, ↓retK_ret, put_same, put_ne, env0_at, ev_tmp, ev_const, oc_int, oc_bool, o_move, o_assign, o_pick, o_bin, g_none, g_some, pick_bool, bin_lss, resultsOf, oneOrAll, Option.bind_some, Option.map_some, Option.getD_some, decide_eq_true_eq, ↓reduceIte, Nat.reduceEqDiff, not_false_eq_true, List.getElem?_cons_zero, List.getElem?_cons_succ, List.getElem?_toArray, ne_eq, c1, c2]
    have hw : within w 0 100000 = false := by unfold within; simp; omega
    exact same 2 (by unfold WantET; rw [if_pos (.inr hw)]) rfl (by unfold WantPT; rw [if_pos (.inr hw)])
  by_cases c3 : 100000 < w
  · simp +contextual (maxSteps := 3000000) only [↓code_seq, ↓code_region, ↓code_cond, ↓code_ret, aCond_bool, ↓ops_nil, ↓ops_cons, run_none, run_someF, ↓run0_v, ↓seqK_normal, ↓seqK_ret, ↓retK_ret, put_same, put_ne, env0_at, ev_tmp, ev_const, oc_int, oc_bool, o_move, o_assign, o_pick, o_bin, g_none, g_some, pick_bool, bin_lss, bin_gtr, resultsOf, oneOrAll, Option.bind_some, Option.map_some, Option.getD_some, decide_eq_true_eq, ↓reduceIte, Nat.reduceEqDiff, not_false_eq_true, List.getElem?_cons_zero, List.getElem?_cons_succ, List.getElem?_toArray, gt_iff_lt, ne_eq, c1, c2, c3]
    have hw : within w 0 100000 = false := by unfold within; simp; omega
    exact same 2 (by unfold WantET; rw [if_pos (.inr hw)]) rfl (by unfold WantPT; rw [if_pos (.inr hw)])
  have hw : ¬ (c < 1 ∨ within w 0 100000 = false) := by
    rintro (g | g)
    · exact c1 g
    · unfold within at g; simp at g; omega
  have e1 : WantET Q c w = wantET Q ⟨c, w, .nilp⟩ := by unfold WantET; rw [if_neg hw]
  have e2 : WantPT Q c w = wantPT Q ⟨c, w, .nilp⟩ := by unfold WantPT; rw [if_neg hw]
  rw [e1, e2]
  simp +contextual (maxSteps := 3000000) only [↓code_skip, ↓code_seq, ↓code_region, ↓code_cond, ↓code_ret, aCond_bool, ↓ops_nil, ↓ops_cons, run_none, run_someF, ↓run0_v, ↓run0_r, ↓seqK_normal, ↓retK_ret, put_same, put_ne, env0_at, ev_tmp, ev_const, ev_func, oc_int, oc_bool, o_move, o_assign, o_pick, o_bin, o_call, o_build, g_none, g_some, pick_bool, bin_lss, bin_gtr, resultsOf, oneOrAll, Option.bind_some, Option.map_some, Option.getD_some, decide_eq_true_eq, ↓reduceIte, Nat.reduceEqDiff, not_false_eq_true, Nat.reduceAdd, reduceCtorEq, List.getElem?_cons_zero, List.getElem?_cons_succ, List.getElem?_toArray, List.map_cons, List.map_nil, List.append_nil, List.nil_append, List.cons_append, and_true, Nat.reduceLeDiff, gt_iff_lt, ne_eq, build_struct T106 d106, z106, parts_eq, fillA, AV.cells, AH.splice, List.take_succ_cons, List.take_zero, List.drop_succ_cons, List.drop_zero, List.length_cons, List.length_nil, p106_0, p106_1, c1, c2, c3, q1, callV_fn (g := 62) (by decide)]
  exact ⟨h2, off2, rfl, q2, q3⟩
def giveO (Q : Tp) (c : Int) : Int × Tp := if c < 1 then (5, Q) else match inS Q.ss c with
  | some i => (0, { Q with ss := Q.ss.eraseIdx i })
  | none => match inW Q.ws c with
    | some i => (0, { Q with ws := Q.ws.eraseIdx i })
    | none => (5, Q)
theorem map_eraseIdx {α β : Type} (f : α → β) : ∀ (l : List α) (i : Nat), (l.eraseIdx i).map f = (l.map f).eraseIdx i
  | [], i => by simp
  | a :: l, 0 => by simp
  | a :: l, i + 1 => by simp [map_eraseIdx f l i]
theorem mem_erase {α : Type} {l : List α} {i : Nat} {x : α} (h : x ∈ l.eraseIdx i) : x ∈ l := List.mem_of_mem_eraseIdx h
theorem L47 {I : Nat → Option (List AV → AH → Rs)} (h63 : I 63 = none) (h64 : I 64 = none) (h47 : I 47 = none) (m p : Nat) (c : Int) (Q : Tp) (off : Nat → Prop) (h : AH) (hQ : OkT h p Q off) (hn : Q.ws.length ≤ 200 ∧ Q.ss.length ≤ 200) :
    ∃ h2 off2, call F I T (m + 301) 47 [.ptr p 0, .int .i64 c] h = some (.int .i64 (giveO Q c).1, h2) ∧ OkT h2 p (giveO Q c).2 off2 ∧ Stf h h2 off off2 := by
  obtain ⟨R, hR, rfl, rfl⟩ := hQ
  have hsl : R.ss.length ≤ 200 := by have := hn.2; rw [show (tp R).ss = R.ss.map tc from rfl, List.length_map] at this; exact this
  have hwl : R.ws.length ≤ 200 := hn.1
  have hp1 : h.get p = some (.cells [.int .i64 R.q, .int .i64 R.r, R.sv, R.wv, R.jv, R.qv, .int .i64 R.ap, .int .i64 R.sq] .own) := hR.g
  have k1 := run63 h63 (m + 280) R.sv R.ss c h hR.s ⟨by omega, by omega⟩
  have hw1 := hR.w
  have hwl' : (R.ws.map rcw).length = R.ws.length := List.length_map ..
  rw [← hwl'] at hw1
  have k2 := run63 h63 (m + 280) R.wv (R.ws.map rcw) c h hw1 ⟨by omega, by omega⟩
  rw [at_ss] at k1
  rw [at_ws] at k2
  rw [call_F (by decide) h47 F47 rfl R47]; simp only [Tryd.f47, Option.getD]
  by_cases c1 : c < 1
  · have e : giveO (tp R) c = (5, tp R) := by unfold giveO; rw [if_pos c1]
    rw [e]
    simp +contextual (maxSteps := 3000000) only [↓code_seq, ↓code_region, ↓code_cond, ↓code_ret, aCond_bool, ↓ops_nil, ↓ops_cons, run_none, ↓run0_v, ↓seqK_normal, ↓seqK_ret, ↓retK_ret, put_same, put_ne, env0_at, ev_tmp, ev_const, oc_int, o_move, o_assign, o_bin, g_none, bin_lss, resultsOf, oneOrAll, Option.map_some, Option.getD_some, decide_eq_true_eq, ↓reduceIte, Nat.reduceEqDiff, not_false_eq_true, List.getElem?_cons_zero, List.getElem?_cons_succ, ne_eq, c1]
    exact ⟨h, _, rfl, ⟨R, hR, rfl, rfl⟩, Stf.refl _ _⟩
  have e0 : giveO (tp R) c = match inS (R.ss.map tc) c with
    | some i => (0, { tp R with ss := (tp R).ss.eraseIdx i })
    | none => match inW R.ws c with
      | some i => (0, { tp R with ws := (tp R).ws.eraseIdx i })
      | none => (5, tp R) := by unfold giveO; rw [if_neg c1]; rfl
  cases hs : inS (R.ss.map tc) c with
  | some i =>
    have hi : i < R.ss.length := by
      have := (List.findIdx?_eq_some_iff_getElem.1 hs).1
      rw [List.length_map] at this; exact this
    rw [hs] at k1 e0
    obtain ⟨v2, h2, q1, q2, q3, q4⟩ := run64 h64 (m + 295) i R.sv R.ss h hR.s hi (by omega) hR.oneS
    obtain ⟨hR2, hS2⟩ := hR.setS q4 q2 q3 (fun c hc => ⟨(hR.sd c (mem_erase hc)).2, .inr ⟨c, mem_erase hc, rfl, rfl⟩⟩)
    have hp2 : h2.get p = some (.cells R.cs .own) := by rw [q4.2 p hR.lt]; exact hR.g
    have hst : aStore T 101 (.ptr p 2) v2 h2 = some (h2.put p (.cells ({ R with sv := v2, ss := R.ss.eraseIdx i } : Rf).cs .own)) :=
      store_1 (cs := R.cs) T101 s101 (RowC.cells q2).1 (RowC.cells q2).2 hp2 (by simp [Rf.cs])
    have c2 : (0 : Int) ≤ (i : Int) := by omega
    rw [e0]
    simp +contextual (maxSteps := 3000000) only [↓code_skip, ↓code_seq, ↓code_region, ↓code_cond, ↓code_ret, aCond_bool, ↓ops_nil, ↓ops_cons, run_none, ↓run0_v, ↓run0_h, ↓run0_r, ↓seqK_normal, ↓seqK_ret, ↓retK_ret, put_same, put_ne, put_none, env0_at, ev_tmp, ev_const, ev_func, oc_int, o_move, o_assign, o_bin, o_call, o_load, o_store, o_nilCheck, o_fieldAddr, g_none, bin_lss, bin_geq, nil_ptr, resultsOf, oneOrAll, Option.map_some, Option.getD_some, decide_eq_true_eq, ↓reduceIte, Nat.reduceEqDiff, not_false_eq_true, Nat.reduceAdd, reduceCtorEq, List.getElem?_cons_zero, List.getElem?_cons_succ, List.map_cons, List.map_nil, List.append_nil, List.nil_append, ge_iff_le, ne_eq, fa_ptr T103 p103_2 (by decide), load_p1 T101 a101, loadc_def, run0_h, c1, hp1, k1, ixO, c2, q1, hst, callV_fn (g := 63) (by decide), callV_fn (g := 64) (by decide)]
    exact ⟨_, _, rfl, ⟨_, hR2, by unfold tp; rw [map_eraseIdx], rfl⟩, stfF hS2 (Ext.setS fun c hc => .inr ⟨c, mem_erase hc, rfl⟩)⟩
  | none =>
    rw [hs] at k1 e0
    have c2 : ¬ (0 : Int) ≤ -1 := by decide
    cases hw : inW R.ws c with
    | some i =>
      have hi : i < R.ws.length := (List.findIdx?_eq_some_iff_getElem.1 hw).1
      rw [hw] at k2 e0
      obtain ⟨v2, h2, q1, q2, q3, q4⟩ := run64 h64 (m + 295) i R.wv (R.ws.map rcw) h hw1 (by omega) (by omega) hR.oneW
      rw [← map_eraseIdx, List.length_map] at q2
      obtain ⟨hR2, hS2⟩ := hR.setW (l := R.ws.eraseIdx i) q4 q2 q3 (fun x hx => hR.wd x (mem_erase hx))
      have hp2 : h2.get p = some (.cells R.cs .own) := by rw [q4.2 p hR.lt]; exact hR.g
      have hst : aStore T 101 (.ptr p 3) v2 h2 = some (h2.put p (.cells ({ R with wv := v2, ws := R.ws.eraseIdx i } : Rf).cs .own)) :=
        store_1 (cs := R.cs) T101 s101 (RowC.cells q2).1 (RowC.cells q2).2 hp2 (by simp [Rf.cs])
      have c3 : (0 : Int) ≤ (i : Int) := by omega
      rw [e0]
      simp +contextual (maxSteps := 3000000) only [↓code_skip, ↓code_seq, ↓code_region, ↓code_cond, ↓code_ret, aCond_bool, ↓ops_nil, ↓ops_cons, run_none, ↓run0_v, ↓run0_h, ↓run0_r, ↓seqK_normal, ↓seqK_ret, ↓retK_ret, put_same, put_ne, put_none, env0_at, ev_tmp, ev_const, ev_func, oc_int, o_move, o_assign, o_bin, o_call, o_load, o_store, o_nilCheck, o_fieldAddr, g_none, bin_lss, bin_geq, nil_ptr, resultsOf, oneOrAll, Option.map_some, Option.getD_some, decide_eq_true_eq, ↓reduceIte, Nat.reduceEqDiff, not_false_eq_true, Nat.reduceAdd, reduceCtorEq, List.getElem?_cons_zero, List.getElem?_cons_succ, List.map_cons, List.map_nil, List.append_nil, List.nil_append, ge_iff_le, ne_eq, fa_ptr T103 p103_2 (by decide), load_p1 T101 a101, loadc_def, run0_h, fa_ptr T103 p103_3 (by decide), c1, hp1, k1, k2, ixO, c2, c3, q1, hst, callV_fn (g := 63) (by decide), callV_fn (g := 64) (by decide)]
      exact ⟨_, _, rfl, ⟨_, hR2, rfl, rfl⟩, stfF hS2 (Ext.sub fun v hv => .inl hv)⟩
    | none =>
      rw [hw] at k2 e0
      rw [e0]
      simp +contextual (maxSteps := 3000000) only [↓code_skip, ↓code_seq, ↓code_region, ↓code_cond, ↓code_ret, aCond_bool, ↓ops_nil, ↓ops_cons, run_none, ↓run0_v, ↓run0_r, ↓seqK_normal, ↓retK_ret, put_same, put_ne, env0_at, ev_tmp, ev_const, ev_func, oc_int, o_move, o_assign, o_bin, o_call, o_load, o_nilCheck, o_fieldAddr, g_none, bin_lss, bin_geq, nil_ptr, resultsOf, oneOrAll, Option.map_some, Option.getD_some, decide_eq_true_eq, ↓reduceIte, Nat.reduceEqDiff, not_false_eq_true, Nat.reduceAdd, reduceCtorEq, List.getElem?_cons_zero, List.getElem?_cons_succ, List.map_cons, List.map_nil, List.append_nil, List.nil_append, ge_iff_le, ne_eq, fa_ptr T103 p103_2 (by decide), load_p1 T101 a101, loadc_def, fa_ptr T103 p103_3 (by decide), c1, hp1, k1, k2, ixO, c2, callV_fn (g := 63) (by decide)]
      exact ⟨h, _, rfl, ⟨R, hR, rfl, rfl⟩, Stf.refl _ _⟩
end Go.AM.X
