/- A law that asks the size of an argument first, and nothing else of it. Own work. -/
import Derived.Test.YtgfbblhbhdjocaaGreatAmRow
namespace Go.AM
open Go Go.RowKit
set_option linter.unusedVariables false

/-- Some operations, one behind the other: what they leave. -/
def ops2 (C : Cf) (T : TT) (all : Array Oper) : List Oper → Env → AH → Option (Env × AH)
  | [], e, h => some (e, h)
  | o :: rest, e, h => match (outOf C T o e h).run (guardOf all o e) h fun v h' => some (v, h') with
    | some (v, h') => ops2 C T all rest (e.put o.dst v) h'
    | none => none

theorem run_of {x : Out} {g : Option (AV × Bool)} {h : AH} {v : AV} {h' : AH} (hr : x.run g h (fun v h' => some (v, h')) = some (v, h')) (K : AV → AH → Rs) : x.run g h K = K v h' := by
  have go : ∀ (x : Out), x.run0 h (fun v h' => some (v, h')) = some (v, h') → x.run0 h K = K v h' := by
    intro x hr
    cases x with
    | v y => cases y <;> simp [Out.run0] at hr ⊢; rw [hr.1, hr.2]
    | h y => cases y <;> simp [Out.run0] at hr ⊢; rw [hr.1, hr.2]
    | r y => cases y <;> simp [Out.run0] at hr ⊢; rw [hr.1, hr.2]
  unfold Out.run at hr ⊢
  cases g with
  | none => exact go x hr
  | some p =>
    obtain ⟨g, want⟩ := p
    simp only at hr ⊢
    cases hw : wants g want with
    | none => simp [hw] at hr
    | some b => cases b with
      | true => simp only [hw] at hr ⊢; exact go x hr
      | false =>
        simp only [hw, Option.some.injEq, Prod.mk.injEq] at hr ⊢
        rw [hr.1, hr.2]

theorem ops_of_ops2 {C : Cf} {T : TT} {all : Array Oper} {K : Env → AH → Rs} : ∀ (l : List Oper) (e : Env) (h : AH) (e1 : Env) (h1 : AH), ops2 C T all l e h = some (e1, h1) → ops C T all l e h K = K e1 h1
  | [], e, h, e1, h1, hr => by simp only [ops2, Option.some.injEq, Prod.mk.injEq] at hr; rw [← hr.1, ← hr.2]; rfl
  | o :: rest, e, h, e1, h1, hr => by
    simp only [ops2] at hr
    split at hr
    · rename_i v h' hv
      simp only [ops]
      rw [run_of hv]
      exact ops_of_ops2 rest _ _ e1 h1 hr
    · cases hr

/-- The shape of such a law. -/
structure GShape where
  r0 : Array Oper
  r1 : Array Oper
  c : Operand
  a : Code
  rest : Code
def gshape : Code → Option GShape
  | .seq (.region _ r0 false) (.seq (.seq (.region _ r1 false) (.cond c a .skip)) rest) => some ⟨r0, r1, c, a, rest⟩
  | _ => none

theorem gshape_code {body : Code} {g : GShape} (hg : gshape body = some g) : ∃ i j, body = .seq (.region i g.r0 false) (.seq (.seq (.region j g.r1 false) (.cond g.c g.a .skip)) g.rest) := by
  unfold gshape at hg
  split at hg
  · cases hg; exact ⟨_, _, rfl⟩
  · cases hg

/-- What lies behind the two first regions. -/
def gEnd (C : Cf) (T : TT) (g : GShape) (e : Env) (h : AH) : Option (Env × AH) := match ops2 C T g.r0 g.r0.toList e h with
  | some p => ops2 C T g.r1 g.r1.toList p.1 p.2
  | none => none

theorem guard_run {C : Cf} {T : TT} {n : Nat} {rf : Bool} {body : Code} {g : GShape} (hg : gshape body = some g) {e e1 : Env} {h h1 : AH} {K : Kt} {b : Bool}
    (he : gEnd C T g e h = some (e1, h1)) (hc : ev e1 g.c = .bool b)
    (hX : isT (code C T n rf g.a e1 h1 (seqK (code C T n rf g.rest) K)) = true) (hY : isT (code C T n rf g.rest e1 h1 K) = true) : isT (code C T n rf body e h K) = true := by
  obtain ⟨i, j, rfl⟩ := gshape_code hg
  simp only [code]
  unfold gEnd at he
  split at he
  · rename_i p hp
    obtain ⟨e0, h0⟩ := p
    rw [ops_of_ops2 _ _ _ e0 h0 hp]
    simp only [seqK, code]
    rw [ops_of_ops2 _ _ _ e1 h1 he]
    simp only [seqK, code, hc]
    cases b with
    | true => exact hX
    | false => exact hY
  · cases he

/-- A law of such a shape, of a program. -/
theorem guard_law {F : Nat → Option FI} {I : Nat → Option (List AV → AH → Rs)} {T : TT} {n f : Nat} {args : List AV} {h : AH} {fi : FI} (hY : Nat.beq f YLD = false) (hI : I f = none) (hF : F f = some fi) (hr : fi.rf = false)
    {g : GShape} (hg : gshape fi.body = some g) {e1 : Env} {h1 : AH} {b : Bool} (he : gEnd (call F I T n) T g (env0 args) h = some (e1, h1)) (hc : ev e1 g.c = .bool b)
    (hX : isT (code (call F I T n) T n false g.a e1 h1 (seqK (code (call F I T n) T n false g.rest) (retK T fi.results))) = true) (hZ : isT (code (call F I T n) T n false g.rest e1 h1 (retK T fi.results)) = true) :
    isT (call F I T (n + 1) f args h) = true := by
  simp only [call, hY, hI, hF, body, hr]
  exact guard_run hg he hc hX hZ

end Go.AM
