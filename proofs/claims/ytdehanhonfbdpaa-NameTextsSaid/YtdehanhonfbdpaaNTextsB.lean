/- NameTexts: the texts of patterns, and what texts are: program and document agree, for all of them. Own work. -/
import Derived.Test.YtdehanhonfbdpaaRows
import Derived.Test.YtdehanhonfbdpaaAmOpen
import Derived.Test.YtdehanhonfbdpaaNttG
import Derived.ShutString
import Derived.ChangeOld
namespace Go.Proofs.Ytdehanhonfbdpaa.NTextsB
open Go Go.AM Go.AM.Sx Go.RowKit Go.ChangeShapes Go.WideShapes Go.ChangeAt
open Go.ChangeMaps (open_string shut_string)
set_option linter.unusedVariables false
theorem own : ownKnob Try.prog.godebug = none := by kernel_rfl
theorem laidOut : laidOutB Try.prog = true := by kernel_rfl
theorem mixed : Try.prog.follows .mixedOrders = true := by decide +kernel
set_option maxRecDepth 100000 in
theorem op_ent {H : Type} {enc : TypeId × Value → H} {W : World} : ∃ ok, Opens enc Try.prog W 48 (List UInt8 × List UInt8 × List UInt8 × Unit) (fun p => [.str p.1] ++ ([.str p.2.1] ++ ([.str p.2.2.1] ++ []))) ok ∧ ∀ p, ok p → Go.AM.X.okE ⟨p.1, p.2.1, p.2.2.1⟩ :=
  ⟨_, op_struct Try.underlying48 (N := 3) (by kernel_rfl) (ofs_cons (sz := 1) rfl (by kernel_rfl) (op_str Try.underlying9) (ofs_cons (sz := 1) rfl (by kernel_rfl) (op_str Try.underlying9) (ofs_cons (sz := 1) rfl (by kernel_rfl) (op_str Try.underlying9) ofs_nil))), fun p h => ⟨h.1, h.2.1, h.2.2.1⟩⟩
set_option maxRecDepth 100000 in
theorem lifted (os : Os) (started : os.Started) (H : Type) (enc : TypeId × Value → H) :
    ReturnsInHanded {} Try.checked os 6 .any (Rows.nameTextsSpec.pre6 enc Try.prog Try.f6 Rows.nameTextsRow.domain false) (Rows.nameTextsSpec.post enc Try.prog Try.f6 false true false false) := by
  refine returnsInHanded_of_change_sized (C := Try.checked) own started (by kernel_rfl) Try.func6
    (ChangeSpec.witness6 (enc := enc) (C := Try.checked) false ⟨#[], #[.agg #[.string ⟨#[]⟩, .string ⟨#[]⟩, .string ⟨#[]⟩], .string ⟨#[]⟩], []⟩ 8 (by kernel_rfl) (by kernel_rfl) (by kernel_rfl) (by kernel_rfl)) ?_
  intro W base args ds gs before hval0 hW hcnd hsz0 _
  have hval : ∀ (j : Nat) t v, Try.f6.params[j]? = some t → args[j]? = some v → Value.okWide Try.prog W .any base t v := hval0
  have hsz : (DataW.weightsEach Try.prog (Try.f6.params.toList ++ Rows.nameTextsSpec.plain.varTypes Try.prog) (ds ++ gs)).all (· ≤ reachBytes) = true := hsz0
  have hW' := hW
  obtain ⟨p, q, hA0, hV, rfl, hfz, hnd⟩ := hW
  have hA : DataW.TrodAll enc Try.prog W 0 (fun _ => true) true Try.f6.params.toList args.toList ds p := hA0
  rw [Try.params6] at hA hval hsz
  obtain ⟨v0, vs0, d0, ds0, p0, q0, hargs, rfl, rfl, h0, r0⟩ := trodAll_cons hA
  obtain ⟨v1, vs1, d1, ds1, p1, q1, rfl, rfl, rfl, h1, r1⟩ := trodAll_cons r0
  obtain ⟨rfl, rfl, rfl⟩ := trodAll_nil r1
  obtain rfl : args = #[v0, v1] := by cases args; simp_all
  obtain ⟨rfl, rfl⟩ := trodVars_none hV
  obtain ⟨c1, rfl, hc1⟩ := okWide_struct Try.underlying48 (hval 0 48 v0 rfl rfl)
  obtain ⟨s0, rfl⟩ := okWide_string Try.underlying9 (hval 1 9 v1 rfl rfl)
  obtain ⟨ok, ho, hok⟩ := op_ent (enc := enc) (W := W)
  obtain ⟨p, hp, hpo⟩ := ho.argS h0 (weights_of hsz (j := 0) rfl rfl)
  obtain ⟨s, hs, hsl⟩ := (op_str Try.underlying9).arg h1 rfl (weights_of hsz (j := 1) rfl rfl)
  obtain ⟨h', hc⟩ := Go.AM.X.law6 ⟨p.1, p.2.1, p.2.2.1⟩ s (by omega)
  refine (calls_true Go.AM.X.hT Go.AM.X.hmix Go.AM.X.hF Go.AM.X.U8 (by decide) hc (args := #[_, _]) (VRL.cons hp (VRL.cons hs VRL.nil))).mono fun e W' ⟨he, bel⟩ => ?_
  subst he
  exact ⟨_, rfl, post_true laidOut (by kernel_rfl) rfl (show Try.f6.resultTypes = #[4] by kernel_rfl) Try.underlying4 hW' rfl bel⟩
theorem row_holds : Rows.NameTextsSaid :=
  OpenClaim.holds_of_wide 6 Try.f6 rfl rfl rfl rfl rfl rfl rfl ⟨rfl, rfl, rfl, rfl, rfl⟩ rfl rfl rfl rfl rfl (by kernel_rfl) Try.func6 (by kernel_rfl)
    (of_decide_eq_true (by kernel_rfl)) (by unfold Func.isWrapper; first | (rw [if_pos (by decide +kernel)]; kernel_rfl) | (rw [if_neg (by decide +kernel)]; exact ⟨rfl, rfl⟩))
    (fun os started H enc _ => lifted os started H enc)
#print axioms row_holds
end Go.Proofs.Ytdehanhonfbdpaa.NTextsB
