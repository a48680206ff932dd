/- A function that is known by its contract: the place of a byte in a text. Own work. -/
import Derived.Test.YtkaihcpnomdkkaaDoorAmRow
import Derived.Lib.Bytealg
namespace Go.AM
open Go Go.RowKit
set_option linter.unusedVariables false

def ixG (args : List AV) (h : AH) : Rs :=
  match args with
  | [.str s, .int .u8 c] => some (.int .i64 (Lib.indexByte s c.toNat.toUInt8), h)
  | _ => none

theorem ix_agree {P : Program} {F : Nat → Option FI} (hF : FAgree P F) {I : Nat → Option (List AV → AH → Rs)} (hI : IAgree P I) {f : Nat} (fi : FI) (hFf : F f = some fi)
    (hc : ∀ (s : ByteArray) (c : Int) (w : World), Calls P f #[.string s, .int .u8 c] w fun e w' => e = .returned (.int .i64 (Lib.indexByte s.data.toList c.toNat.toUInt8)) ∧ w' = w) : IAgree P (addI I f ixG) := by
  refine addI_agree hI ?_ ?_
  · obtain ⟨fn, hfn, hbody, _, _, hname, _⟩ := hF.fn f fi hFf
    have hname' : ¬ fn.name = "runtime.NumGoroutine" := by simpa using hname
    exact fun as w => by simp [callFunc, hfn, hname', hbody]
  · intro args h v h' hg B μ vs w hvs hr
    unfold ixG at hg
    split at hg
    · rename_i s c
      cases hg
      obtain ⟨x, r1, rfl, h1, h2⟩ := hvs.cons_inv
      obtain ⟨y, r2, rfl, h3, h4⟩ := h2.cons_inv
      rw [h4.nil_inv, h1.str_inv, h3.int_inv]
      refine (hc ⟨⟨s⟩⟩ c w).mono ?_
      rintro e w' ⟨rfl, rfl⟩
      exact ⟨_, rfl, .same (VR.mk_int _ _) hr⟩
    · cases hg
end Go.AM
