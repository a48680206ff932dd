/- TunnelMakes: which ends can be made: program and document agree, for all numbers. Own work. -/
import Derived.Test.YtplanafgphadaaaRows
import Derived.Test.YtplanafgphadaaaAmOpen
import Derived.Test.YtplanafgphadaaaTa
import Derived.ShutString
import Derived.ChangeOld
namespace Go.Proofs.Ytplanafgphadaaa.MakesB
open Go Go.AM Go.AM.Sx Go.RowKit Go.ChangeShapes Go.WideShapes Go.ChangeAt
open Go.ChangeMaps (open_string shut_string)
set_option linter.unusedVariables false
theorem own : ownKnob Try.prog.godebug = none := by kernel_rfl
theorem laidOut : laidOutB Try.prog = true := by kernel_rfl
theorem mixed : Try.prog.follows .mixedOrders = true := by decide +kernel

theorem op_int3 {H : Type} {enc : TypeId × Value → H} {W : World} : Opens enc Try.prog W 3 Int (fun n => [.int .i64 n]) (fun n => (Lit.int .i64 n).wf = true) := op_int Try.underlying3

set_option maxRecDepth 100000 in
theorem lifted (os : Os) (started : os.Started) (H : Type) (enc : TypeId × Value → H) :
    ReturnsInHanded {} Try.checked os 3 .any (Rows.tunnelMakesSpec.pre6 enc Try.prog Try.f3 Rows.tunnelMakesRow.domain false) (Rows.tunnelMakesSpec.post enc Try.prog Try.f3 false true false false) := by
  refine returnsInHanded_of_change_sized (C := Try.checked) own started (by kernel_rfl) Try.func3
    (ChangeSpec.witness6 (enc := enc) (C := Try.checked) false ⟨#[], #[.agg #[.int .i64 0, .int .i64 0, .int .i64 0]], []⟩ 8 (by kernel_rfl) (by kernel_rfl) (by kernel_rfl) (by kernel_rfl)) ?_
  intro W base args ds gs before hval0 hW hcnd hsz0 _
  have hval : ∀ (j : Nat) t v, Try.f3.params[j]? = some t → args[j]? = some v → Value.okWide Try.prog W .any base t v := hval0
  have hsz : (DataW.weightsEach Try.prog (Try.f3.params.toList ++ Rows.tunnelMakesSpec.plain.varTypes Try.prog) (ds ++ gs)).all (· ≤ reachBytes) = true := hsz0
  have hW' := hW
  obtain ⟨p, q, hA0, hV, rfl, hfz, hnd⟩ := hW
  have hA : DataW.TrodAll enc Try.prog W 0 (fun _ => true) true Try.f3.params.toList args.toList ds p := hA0
  rw [Try.params3] at hA hval hsz
  obtain ⟨v0, vs0, d0, ds0, p0, q0, hargs, rfl, rfl, h0, r0⟩ := trodAll_cons hA
  obtain ⟨rfl, rfl, rfl⟩ := trodAll_nil r0
  obtain rfl : args = #[v0] := by cases args; simp_all
  obtain ⟨rfl, rfl⟩ := trodVars_none hV
  obtain ⟨cs, rfl, hcs⟩ := okWide_struct Try.underlying23 (hval 0 23 v0 rfl rfl)
  obtain ⟨⟨n, b, l, _⟩, hl, _⟩ := (op_struct (enc := enc) (W := W) Try.underlying23 (N := 3) (by kernel_rfl) (ofs_cons (sz := 1) rfl (by kernel_rfl) op_int3 (ofs_cons (sz := 1) rfl (by kernel_rfl) op_int3 (ofs_cons (sz := 1) rfl (by kernel_rfl) op_int3 ofs_nil)))).argS h0 (weights_of hsz (j := 0) rfl rfl)
  obtain ⟨h', hc⟩ := Go.AM.X.run3 (I := Go.AM.X.I1) (by rfl) (by rfl) (by rfl) (by rfl) 0 n b l
  refine (calls_true Go.AM.X.hT Go.AM.X.hmix Go.AM.X.hF Go.AM.X.A1 (by decide) hc (args := #[_]) (VRL.cons hl VRL.nil)).mono fun e W' ⟨he, bel⟩ => ?_
  subst he
  exact ⟨_, rfl, post_true laidOut (by kernel_rfl) rfl (show Try.f3.resultTypes = #[4] by kernel_rfl) Try.underlying4 hW' rfl bel⟩

theorem row_holds : Rows.TunnelMakesSaid :=
  OpenClaim.holds_of_wide 3 Try.f3 rfl rfl rfl rfl rfl rfl rfl ⟨rfl, rfl, rfl, rfl, rfl⟩ rfl rfl rfl rfl rfl (by kernel_rfl) Try.func3 (by kernel_rfl)
    (of_decide_eq_true (by kernel_rfl)) (by unfold Func.isWrapper; first | (rw [if_pos (by decide +kernel)]; kernel_rfl) | (rw [if_neg (by decide +kernel)]; exact ⟨rfl, rfl⟩))
    (fun os started H enc _ => lifted os started H enc)
#print axioms row_holds
end Go.Proofs.Ytplanafgphadaaa.MakesB
