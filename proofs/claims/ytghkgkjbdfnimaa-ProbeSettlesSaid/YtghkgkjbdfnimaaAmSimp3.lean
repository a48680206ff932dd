/- Loops over functions by simp: equations. Own work. -/
import Derived.Test.YtghkgkjbdfnimaaAmSimp2
namespace Go.AM
open Go
/-- Code of a frame that has loops over functions, whose open regions are all settled ahead. -/
def regsOkR (T : TT) : Code → Bool
  | .region _ all draw => match draw with
    | false => true
    | true => drawOk T all && (softs T all).isEmpty
  | .seq a b => regsOkR T a && regsOkR T b
  | .cond _ x y => regsOkR T x && regsOkR T y
  | .block _ c => regsOkR T c
  | .scope c => regsOkR T c
  | .loop c => regsOkR T c
  | _ => true
/-- The same as 'code' of such a frame, the open regions' test left out. -/
def codR (C : Cf) (T : TT) (n : Nat) : Code → Env → AH → Kt → Rs
  | .skip, e, h, K => K .normal e h
  | .region _ all _, e, h, K => ops C T all all.toList e h (K .normal)
  | .seq a b, e, h, K => codR C T n a e h (seqK (codR C T n b) K)
  | .cond c x y, e, h, K => aCond (ev e c) (codR C T n x e h K) (codR C T n y e h K)
  | .block id c, e, h, K => codR C T n c e h (blkK id K)
  | .scope c, e, h, K => codR C T n c e h K
  | .label _, e, h, K => K .normal e h
  | .loop c, e, h, K => iterL n (codR C T n c) e h K
  | .exit id, e, h, K => K (.exit id) e h
  | .ret, e, h, K => K .ret e h
  | .rangeFunc f ps asg bdy, e, h, K => (callF C (ev e f) [.yld (h.next + 1)] ((h.alloc .dfr).alloc (.loop e ps.toList asg bdy .ready))).bind fun p =>
      endRange K (e.put (some 4000000001) (.mark (h.next :: marks (e 4000000001)))) (h.next + 1) p.2
  | _, _, _, _ => none
theorem code_codR {C : Cf} {T : TT} {n : Nat} : ∀ c : Code, regsOkR T c = true → code C T n true c = codR C T n c
  | .skip, _ => rfl
  | .region _ all draw, h => by
    funext e hh K
    cases draw with
    | false => rfl
    | true =>
      simp only [regsOkR, Bool.and_eq_true, List.isEmpty_iff] at h
      simp only [code, codR, h.1, h.2]
  | .seq a b, h => by
    simp only [regsOkR, Bool.and_eq_true] at h
    funext e hh K
    simp only [code, codR, code_codR a h.1, code_codR b h.2]
  | .cond c x y, h => by
    simp only [regsOkR, Bool.and_eq_true] at h
    funext e hh K
    simp only [code, codR, code_codR x h.1, code_codR y h.2]
  | .block id c, h => by funext e hh K; simp only [code, codR, code_codR c h]
  | .loop c, h => by funext e hh K; simp only [code, codR, code_codR c h]
  | .exit id, _ => rfl
  | .ret, _ => rfl
  | .rangeFunc .., _ => rfl
  | .scope c, h => by funext e hh K; simp only [code, codR, code_codR c h]
  | .label _, _ => rfl
  | .goto _, _ => rfl
  | .refuse _, _ => rfl
end Go.AM
namespace Go.AM
mutual
/-- A value that is the same as itself. -/
def AV.plainV : AV → Bool
  | .fn _ as bs => plainL as && plainL bs
  | .agg as => plainL as
  | .lst _ _ _ cs => plainL cs
  | .fp cs => plainL cs
  | .tup _ | .yld _ | .mark _ => false
  | _ => true
def plainL : List AV → Bool
  | [] => true
  | a :: as => a.plainV && plainL as
end
end Go.AM
namespace Go.AM.Sx
open Go Go.AM
set_option linter.unusedVariables false
set_option linter.unusedSimpArgs false
theorem callR_F {F I T n f args h fi} (hY : Nat.beq f YLD = false) (hI : I f = none) (hF : F f = some fi) (hr : fi.rf = true) (hl : Nat.ble args.length HID = true) (hok : regsOkR T fi.body = true) :
    call F I T (n + 1) f args h = codR (call F I T n) T n fi.body ((env0 args).put (some 4000000001) .bad) h (retM T fi.results) := by
  simp only [call, hY, hI, hF, body, hr, hl]
  rw [code_codR _ hok]
  rfl
theorem call_yld {F I T n args h} : call F I T (n + 1) YLD args h = yieldRun (call F I T n) T n args h := rfl
section
variable {C : Cf} {T : TT} {n : Nat} {all : Array Oper} {e : Env} {h : AH} {K : Kt}
theorem codR_skip : codR C T n .skip e h K = K .normal e h := (rfl)
theorem codR_seq {a b} : codR C T n (.seq a b) e h K = codR C T n a e h (seqK (codR C T n b) K) := (rfl)
theorem codR_region {id d} : codR C T n (.region id all d) e h K = ops C T all all.toList e h (K .normal) := (rfl)
theorem codR_cond {c x y} : codR C T n (.cond c x y) e h K = aCond (ev e c) (codR C T n x e h K) (codR C T n y e h K) := (rfl)
theorem codR_block {id c} : codR C T n (.block id c) e h K = codR C T n c e h (blkK id K) := (rfl)
theorem codR_loop {c} : codR C T n (.loop c) e h K = iterL n (codR C T n c) e h K := (rfl)
theorem codR_exit {id} : codR C T n (.exit id) e h K = K (.exit id) e h := (rfl)
theorem codR_ret : codR C T n .ret e h K = K .ret e h := (rfl)
theorem codR_range {f ps asg bdy} : codR C T n (.rangeFunc f ps asg bdy) e h K = (callF C (ev e f) [.yld (h.next + 1)] ((h.alloc .dfr).alloc (.loop e ps.toList asg bdy .ready))).bind (fun p =>
      endRange K (e.put (some 4000000001) (.mark (h.next :: marks (e 4000000001)))) (h.next + 1) p.2) := (rfl)
theorem callF_fn {g first caps args} (hY : Nat.beq g YLD = false) : callF C (.fn g first caps) args h = C g (first ++ args ++ caps) h := by simp [callF, hY]
theorem callV_yld {l args} : callV C (.yld l) args h = C YLD (.yld l :: args) h := (rfl)
theorem endRange_ready {l e1 ps a b} (hl : h.get l = some (.loop e1 ps a b .ready)) : endRange K e l h = K .normal e (h.put l .dead) := by simp only [endRange, hl]
theorem retM_ret {rs} : retM T rs .ret e h = (marksEnd h (marks (e 4000000001))).bind fun h' => retK T rs .ret e h' := (rfl)
theorem retM_normal {rs} : retM T rs .normal e h = (marksEnd h (marks (e 4000000001))).bind fun h' => retK T rs .normal e h' := (rfl)
theorem marks_bad : marks .bad = [] := (rfl)
theorem marks_mark {ds} : marks (.mark ds) = ds := (rfl)
theorem marksEnd_nil : marksEnd h [] = some h := (rfl)
theorem marksEnd_one {d} (hd : h.get d = some .dfr) : marksEnd h [d] = some (h.put d .dead) := by simp only [marksEnd, hd]
theorem yield_ready {l vs e1 ps a b} (hl : h.get l = some (.loop e1 ps a b .ready)) (hv : vs.length = ps.length) :
    yieldRun C T n (.yld l :: vs) h = code C T n false a (setPs e1 ps vs) h (midRound C T n l b) := by simp only [yieldRun, hl]; rw [if_pos hv]
theorem setPs_one {e1 : Env} {p v} : setPs e1 [p] [v] = e1.put (some p) v := (rfl)
theorem mid_ready {l b e1 e2 ps a b2} (hl : h.get l = some (.loop e2 ps a b2 .ready)) : midRound C T n l b .normal e1 h = code C T n false b e1 (h.put l (.loop e2 ps a b2 .busy)) (endRound l) := by simp only [midRound, hl]
theorem end_normal {l e1 e2 ps a b2} (hl : h.get l = some (.loop e2 ps a b2 .busy)) : endRound l .normal e1 h = some (.bool true, h.put l (.loop e2 ps a b2 .ready)) := by simp only [endRound, hl]
theorem end_ret {l e1 e2 ps a b2} (hl : h.get l = some (.loop e2 ps a b2 .busy)) : endRound l .ret e1 h = some (.bool false, h.put l (.loop e2 ps a b2 (.done .ret))) := by simp only [endRound, hl]
theorem endRange_ret {l e1 ps a b} (hl : h.get l = some (.loop e1 ps a b (.done .ret))) : endRange K e l h = K .ret e (h.put l .dead) := by simp only [endRange, hl]
/-- An open region in which reads may come on either side of calls. -/
theorem code_soft {rf id ss} (hd : drawOk T all = true) (hs : softs T all = ss) (hn : ss ≠ []) : code C T n rf (.region id all true) e h K =
    opsTr C T all all.toList e h [] (fun e' h' st => match softOk C T all st ss with | true => K .normal e' h' | false => none) := by
  subst hs
  simp only [code, hd]
  cases hs : softs T all with
  | nil => exact absurd hs hn
  | cons s ss => rfl
theorem opsTr_nil {e h tr K} : opsTr C T all [] e h tr K = K e h (tr ++ [(e, h)]) := (rfl)
theorem opsTr_cons {o rest e h tr K} : opsTr C T all (o :: rest) e h tr K = (outOf C T o e h).run (guardOf all o e) h (fun v h' => opsTr C T all rest (e.put o.dst v) h' (tr ++ [(e, h)]) K) := (rfl)
end
theorem code_undrawn {C : Cf} {T : TT} {n : Nat} {rf id all e h K} : code C T n rf (.region id all false) e h K = ops C T all all.toList e h (K .normal) := (rfl)
theorem code_block' {C : Cf} {T : TT} {n : Nat} {rf id c e h K} : code C T n rf (.block id c) e h K = code C T n rf c e h (blkK id K) := (rfl)
theorem code_seq' {C : Cf} {T : TT} {n : Nat} {rf a b e h K} : code C T n rf (.seq a b) e h K = code C T n rf a e h (seqK (code C T n rf b) K) := (rfl)
@[congr] theorem codR_congr {C : Cf} {T : TT} {n : Nat} {c : Code} {e : Env} {h : AH} {K : Kt} : codR C T n c e h K = codR C T n c e h K := (rfl)
@[congr] theorem code_congr' {C : Cf} {T : TT} {n : Nat} {rf : Bool} {c : Code} {e : Env} {h : AH} {K : Kt} : code C T n rf c e h K = code C T n rf c e h K := (rfl)
@[congr] theorem opsTr_congr {C : Cf} {T : TT} {all : Array Oper} {l : List Oper} {e : Env} {h : AH} {tr : List (Env × AH)} {K : Env → AH → List (Env × AH) → Rs} : opsTr C T all l e h tr K = opsTr C T all l e h tr K := (rfl)
theorem range_go {C : Cf} {T : TT} {n : Nat} {f : Operand} {ps : Array Tmp} {asg bdy : Code} {e : Env} {h : AH} {K : Kt} {v : AV} {H' : AH} {Q : Rs → Prop} (hc : callF C (ev e f) [.yld (h.next + 1)] ((h.alloc .dfr).alloc (.loop e ps.toList asg bdy .ready)) = some (v, H'))
    (hk : Q (endRange K (e.put (some 4000000001) (.mark (h.next :: marks (e 4000000001)))) (h.next + 1) H')) : Q (codR C T n (.rangeFunc f ps asg bdy) e h K) := by
  rw [codR_range, hc]; exact hk
mutual
theorem sameV_refl : ∀ {a : AV}, (∀ vs, a ≠ .tup vs) → a.plainV = true → sameV a a = true
  | .bad, _, _ => rfl
  | .bool x, _, _ => by simp [sameV]
  | .int k x, _, _ => by simp [sameV]
  | .str s, _, _ => by simp [sameV]
  | .nilp, _, _ => rfl
  | .ptr x y, _, _ => by simp [sameV]
  | .nils, _, _ => rfl
  | .sl .., _, _ => by simp [sameV]
  | .nilm, _, _ => rfl
  | .mp _, _, _ => by simp [sameV]
  | .nilf, _, _ => rfl
  | .fn f as bs, _, h => by simp only [AV.plainV, Bool.and_eq_true] at h; simp [sameV, sameL_refl h.1, sameL_refl h.2]
  | .agg as, _, h => by simp only [AV.plainV] at h; simp [sameV, sameL_refl h]
  | .tup vs, h, _ => absurd rfl (h vs)
  | .yld _, _, h => by simp [AV.plainV] at h
  | .lst x a b cs, _, h => by simp only [AV.plainV] at h; simp [sameV, sameL_refl h]
  | .fp as, _, h => by simp only [AV.plainV] at h; simp [sameV, sameL_refl h]
  | .mark _, _, h => by simp [AV.plainV] at h
theorem sameL_refl : ∀ {as : List AV}, plainL as = true → sameL as as = true
  | [], _ => rfl
  | a :: as, h => by
    simp only [plainL, Bool.and_eq_true] at h
    simp only [sameL, Bool.and_eq_true]
    refine ⟨sameV_refl (fun vs e => ?_) h.1, sameL_refl h.2⟩
    rw [e] at h; simp [AV.plainV] at h
end
theorem soft_go {b : Bool} {r r' : Rs} (h : r = r') : b = true → (match b with | true => r | false => none) = r' := by intro hb; cases hb; exact h
theorem sameAt_of {C : Cf} {T : TT} {all : Array Oper} {o : Oper} {e : Env} {v : AV} {st : List (Env × AH)} (hv : sameV v v = true) : ∀ (n m : Nat), (∀ k, m ≤ k → k < m + n → ∃ p h2, st[k]? = some p ∧ stepV C T all o e p.2 = some (v, h2)) → sameAt C T all o e v st n m = true
  | 0, _, _ => rfl
  | n + 1, m, h => by
    obtain ⟨p, h2, h3, h4⟩ := h m (Nat.le_refl _) (by omega)
    simp only [sameAt, h3, h4, hv, Bool.true_and]
    exact sameAt_of hv n (m + 1) fun k h1 h2 => h k (by omega) (by omega)
/-- A read of an open region that may come on either side of calls: it finds the same at each place. -/
theorem softOk_cons {C : Cf} {T : TT} {all : Array Oper} {st : List (Env × AH)} {i lo hi : Nat} {ss : List (Nat × Nat × Nat)} {o : Oper} {p : Env × AH} {v : AV} {h1 : AH} (ho : all[i]? = some o) (hp : st[i]? = some p)
    (hs : stepV C T all o p.1 p.2 = some (v, h1)) (hv : sameV v v = true) (hh : hi < st.length) (hall : ∀ q ∈ st.take (hi + 1), stepV C T all o p.1 q.2 = some (v, q.2)) (hrest : softOk C T all st ss = true) :
    softOk C T all st ((i, lo, hi) :: ss) = true := by
  simp only [softOk, ho, hp, hs, hrest, Bool.and_true]
  refine sameAt_of hv _ _ fun k h1 h2 => ?_
  have hk : k < st.length := by omega
  have hk2 : k < (st.take (hi + 1)).length := by simp; omega
  refine ⟨st[k], st[k].2, List.getElem?_eq_getElem hk, hall _ ?_⟩
  have := List.getElem_mem hk2
  rwa [List.getElem_take] at this
theorem stepV_load {C : Cf} {T : TT} {all : Array Oper} {e : Env} {h : AH} {dst : Option Nat} {t : TypeId} {x : Operand} {type : TypeId} {pos : String} {after : Array Edge} {v : AV} (hl : aLoad T t (ev e x) h = some v) :
    stepV C T all ⟨dst, .load t x, type, pos, after, none⟩ e h = some (v, h) := by
  simp only [stepV, outOf, guardOf, Out.run, Out.run0, hl]; rfl
theorem soft_Q {b : Bool} {r : Rs} (Q : Rs → Prop) (h : Q r) : b = true → Q (match b with | true => r | false => none) := by intro hb; cases hb; exact h
theorem stepV_loadG {C : Cf} {T : TT} {all : Array Oper} {e : Env} {h : AH} {dst : Option Nat} {t : TypeId} {x : Operand} {type : TypeId} {pos : String} {after : Array Edge} {j : Nat} {w : Bool} {v : AV}
    (hg : guardOf all ⟨dst, .load t x, type, pos, after, some (j, w)⟩ e = some (.bool w, w)) (hl : aLoad T t (ev e x) h = some v) :
    stepV C T all ⟨dst, .load t x, type, pos, after, some (j, w)⟩ e h = some (v, h) := by
  have hw : wants (.bool w) w = some true := by cases w <;> rfl
  simp only [stepV, hg, Out.run, hw, outOf, Out.run0, hl]; rfl
end Go.AM.Sx
