/- A function that is known by its contract: texts of ASCII in small letters. Own work. -/
import Derived.Test.YtkaihcpnomdkkaaDoorAmRow
import Derived.Lib.Case
namespace Go.AM
open Go Go.RowKit
set_option linter.unusedVariables false

def lowG (args : List AV) (h : AH) : Rs :=
  match args with
  | [.str s] => if s.all (fun c => decide (c.toNat < 128)) = true ∧ s.length < 140737488355328 then some (.str (Lib.toLowerA s), h) else none
  | _ => none

theorem low_agree {P : Program} {F : Nat → Option FI} (hF : FAgree P F) {I : Nat → Option (List AV → AH → Rs)} (hI : IAgree P I) {f : Nat} (fi : FI) (hFf : F f = some fi)
    (hc : ∀ (s : ByteArray) (w : World), s.size ≤ 140737488355328 → (∀ (j : Nat) (b : UInt8), s.data.toList[j]? = some b → b.toNat < 128) →
      Calls P f #[.string s] w fun e w' => e = .returned (.string ⟨(Lib.toLowerA s.data.toList).toArray⟩) ∧ Below w.heap.size w w') : IAgree P (addI I f lowG) := by
  refine addI_agree hI ?_ ?_
  · obtain ⟨fn, hfn, hbody, _, _, hname, _⟩ := hF.fn f fi hFf
    have hname' : ¬ fn.name = "runtime.NumGoroutine" := by simpa using hname
    exact fun as w => by simp [callFunc, hfn, hname', hbody]
  · intro args h v h' hgv B μ vs w hvs hr
    unfold lowG at hgv
    split at hgv
    · rename_i s
      split at hgv
      · rename_i hs
        cases hgv
        obtain ⟨x, r1, rfl, h1, h2⟩ := hvs.cons_inv
        rw [h2.nil_inv, h1.str_inv]
        refine (hc ⟨⟨s⟩⟩ w (by show s.length ≤ _; omega) (fun j b hj => by
          have := List.all_eq_true.1 hs.1 b (List.mem_of_getElem? hj)
          simpa using this)).mono ?_
        rintro e w' ⟨rfl, hb⟩
        have hB : BelowS (· < w.heap.size) w w' := ⟨hb.os, hb.tape, hb.output, hb.size, hb.block⟩
        refine ⟨_, rfl, μ, Img.le.refl _, by rw [VR], hr.below hB, hB.mono hr.base⟩
      · cases hgv
    · cases hgv
end Go.AM
