/- Loops over functions by simp: equations. Own work. -/
import Derived.Test.YtleefbnanliliaaDoorAmSimp2
namespace Go.AM
open Go
/-- The same as 'code' of such a frame, the open regions' test left out. -/
def codR (C : Cf) (T : TT) (n : Nat) : Code → Env → AH → Kt → Rs
  | .skip, e, h, K => K .normal e h
  | .region _ all _, e, h, K => ops C T all all.toList e h (K .normal)
  | .seq a b, e, h, K => codR C T n a e h (seqK (codR C T n b) K)
  | .cond c x y, e, h, K => aCond (ev e c) (codR C T n x e h K) (codR C T n y e h K)
  | .block id c, e, h, K => codR C T n c e h (blkK id K)
  | .scope c, e, h, K => codR C T n c e h K
  | .label _, e, h, K => K .normal e h
  | .loop c, e, h, K => iterL n (codR C T n c) e h K
  | .exit id, e, h, K => K (.exit id) e h
  | .ret, e, h, K => K .ret e h
  | .rangeFunc f ps asg bdy, e, h, K => (callF C (ev e f) [.yld (h.next + 1)] ((h.alloc .dfr).alloc (.loop e ps.toList asg bdy .ready))).bind fun p =>
      endRange K (e.put (some 4000000001) (.mark (h.next :: marks (e 4000000001)))) (h.next + 1) p.2
  | _, _, _, _ => none
end Go.AM
namespace Go.AM
end Go.AM
namespace Go.AM.Sx
open Go Go.AM
set_option linter.unusedVariables false
set_option linter.unusedSimpArgs false
section
variable {C : Cf} {T : TT} {n : Nat} {all : Array Oper} {e : Env} {h : AH} {K : Kt}
/-- An open region in which reads may come on either side of calls. -/
theorem code_soft {rf id ss} (hd : drawOk T all = true) (hs : softs T all = ss) (hn : ss ≠ []) : code C T n rf (.region id all true) e h K =
    opsTr C T all all.toList e h [] (fun e' h' st => match softOk C T all st ss with | true => K .normal e' h' | false => none) := by
  subst hs
  simp only [code, hd]
  cases hs : softs T all with
  | nil => exact absurd hs hn
  | cons s ss => rfl
theorem opsTr_nil {e h tr K} : opsTr C T all [] e h tr K = K e h (tr ++ [(e, h)]) := (rfl)
theorem opsTr_cons {o rest e h tr K} : opsTr C T all (o :: rest) e h tr K = (outOf C T o e h).run (guardOf all o e) h (fun v h' => opsTr C T all rest (e.put o.dst v) h' (tr ++ [(e, h)]) K) := (rfl)
end
@[congr] theorem codR_congr {C : Cf} {T : TT} {n : Nat} {c : Code} {e : Env} {h : AH} {K : Kt} : codR C T n c e h K = codR C T n c e h K := (rfl)
@[congr] theorem code_congr' {C : Cf} {T : TT} {n : Nat} {rf : Bool} {c : Code} {e : Env} {h : AH} {K : Kt} : code C T n rf c e h K = code C T n rf c e h K := (rfl)
@[congr] theorem opsTr_congr {C : Cf} {T : TT} {all : Array Oper} {l : List Oper} {e : Env} {h : AH} {tr : List (Env × AH)} {K : Env → AH → List (Env × AH) → Rs} : opsTr C T all l e h tr K = opsTr C T all l e h tr K := (rfl)
theorem soft_Q {b : Bool} {r : Rs} (Q : Rs → Prop) (h : Q r) : b = true → Q (match b with | true => r | false => none) := by intro hb; cases hb; exact h
end Go.AM.Sx
