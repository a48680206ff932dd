/- WorldNils: what a nil world, and one that is a zero value, return: the run asks of the arguments a text's size alone: the kernel's own run of the abstract machine. Own work. -/
import Derived.Test.YtgfbblhbhdjocaaGreatRows
import Derived.Test.YtgfbblhbhdjocaaGreatAmOpen
import Derived.Test.YtgfbblhbhdjocaaGreatAmGuard
import Derived.Test.YtgfbblhbhdjocaaGreatAmIx
import Derived.KernelRfl
import Derived.Lib.Strings
import Derived.Lib.Slices
import Derived.Lib.Walk
import Derived.ShutString
import Derived.ChangeOld
namespace Go.Proofs
set_option maxHeartbeats 1000000 in
set_option maxRecDepth 100000 in
theorem NilsIx (s : ByteArray) (c : Int) (w : World) :
    Calls Tryz.prog 231 #[.string s, .int .u8 c] w fun e w' => e = .returned (.int .i64 (Lib.indexByte s.data.toList c.toNat.toUInt8)) ∧ w' = w := by
  go_enter Tryz.func231, Tryz.ntmps231
  go_wp2
  rw [run_callFunc_extern Tryz.func260 (by kernel_rfl) (by kernel_rfl) (by kernel_rfl) (e := Extern.BytealgIndexByte.indexByte) (by kernel_rfl), Lib.run_indexByteString]
  simp only [Result.andThen]
  rw [Oper.upon_value]
  go_wp2
  go_ret
  exact ⟨rfl, rfl⟩
end Go.Proofs
namespace Go.Proofs.YtgfbblhbhdjocaaGreat.NilsW
open Go Go.AM Go.AM.Sx Go.RowKit Go.ChangeShapes Go.WideShapes Go.ChangeAt
open Go.ChangeMaps (open_string shut_string)
set_option linter.unusedVariables false
theorem own : ownKnob Tryz.prog.godebug = none := by kernel_rfl
theorem laidOut : laidOutB Tryz.prog = true := by kernel_rfl
theorem mixed : Tryz.prog.follows .mixedOrders = true := by decide +kernel

def I1 := addI noI 231 ixG
theorem FIX : (Fof Tryz.prog 231).isSome = true := by kernel_rfl
theorem I1_agree : IAgree Tryz.prog I1 := by
  obtain ⟨fi, hfi⟩ := Option.isSome_iff_exists.1 FIX
  exact ix_agree (Fof_agree _) (noI_agree _) fi hfi NilsIx
def args (n : Int) (s : List UInt8) : List AV := [.int .i64 n, .str s]
noncomputable def fi : FI := (Fof Tryz.prog 3).getD ⟨.skip, [], false⟩
theorem hfi : Fof Tryz.prog 3 = some fi := by kernel_rfl
noncomputable def g : GShape := (gshape fi.body).getD ⟨#[], #[], .tmp 0, .skip, .skip⟩
theorem hg : gshape fi.body = some g := by kernel_rfl
noncomputable def C0 : Cf := call (Fof Tryz.prog) I1 (tiOf Tryz.prog) 90
noncomputable def behind (n : Int) (s : List UInt8) : Env × AH := (gEnd C0 (tiOf Tryz.prog) g (env0 (args n s)) ⟨0, .leaf⟩).getD (fun _ => .bad, ⟨0, .leaf⟩)
theorem hend (n : Int) (s : List UInt8) : gEnd C0 (tiOf Tryz.prog) g (env0 (args n s)) ⟨0, .leaf⟩ = some ((behind n s).1, (behind n s).2) := by kernel_rfl
theorem hcond (n : Int) (s : List UInt8) : ev (behind n s).1 g.c = .bool (decide ((s.length : Int) > 100)) := by kernel_rfl
theorem runX (n : Int) (s : List UInt8) : isT (code C0 (tiOf Tryz.prog) 90 false g.a (behind n s).1 (behind n s).2 (seqK (code C0 (tiOf Tryz.prog) 90 false g.rest) (retK (tiOf Tryz.prog) fi.results))) = true := by kernel_rfl
theorem runZ (n : Int) (s : List UInt8) : isT (code C0 (tiOf Tryz.prog) 90 false g.rest (behind n s).1 (behind n s).2 (retK (tiOf Tryz.prog) fi.results)) = true := by kernel_rfl
theorem run (n : Int) (s : List UInt8) : isT (call (Fof Tryz.prog) I1 (tiOf Tryz.prog) 91 3 (args n s) ⟨0, .leaf⟩) = true :=
  guard_law (by decide) rfl hfi (by kernel_rfl) hg (hend n s) (hcond n s) (runX n s) (runZ n s)

set_option maxRecDepth 100000 in
theorem lifted (os : Os) (started : os.Started) (H : Type) (enc : TypeId × Value → H) :
    ReturnsInHanded {} Tryz.checked os 3 .any (Rows.worldNilsSpec.pre6 enc Tryz.prog Tryz.f3 Rows.worldNilsRow.domain false) (Rows.worldNilsSpec.post enc Tryz.prog Tryz.f3 false true false false) := by
  refine returnsInHanded_of_change_sized (C := Tryz.checked) own started (by kernel_rfl) Tryz.func3
    (ChangeSpec.witness6 (enc := enc) (C := Tryz.checked) false ⟨#[], #[.int .i64 0, .string ⟨#[]⟩], []⟩ 8 (by kernel_rfl) (by kernel_rfl) (by kernel_rfl) (by kernel_rfl)) ?_
  intro W base args ds gs before hval0 hW hcnd hsz0 _
  have hval : ∀ (j : Nat) t v, Tryz.f3.params[j]? = some t → args[j]? = some v → Value.okWide Tryz.prog W .any base t v := hval0
  have hsz : (DataW.weightsEach Tryz.prog (Tryz.f3.params.toList ++ Rows.worldNilsSpec.plain.varTypes Tryz.prog) (ds ++ gs)).all (· ≤ reachBytes) = true := hsz0
  have hW' := hW
  obtain ⟨p, q, hA0, hV, rfl, hfz, hnd⟩ := hW
  have hA : DataW.TrodAll enc Tryz.prog W 0 (fun _ => true) true Tryz.f3.params.toList args.toList ds p := hA0
  rw [Tryz.params3] at hA hval hsz
  obtain ⟨v0, vs0, d0, ds0, p0, q0, hargs, rfl, rfl, h0, r0⟩ := trodAll_cons hA
  obtain ⟨v1, vs1, d1, ds1, p1, q1, rfl, rfl, rfl, h1, r1⟩ := trodAll_cons r0
  obtain ⟨rfl, rfl, rfl⟩ := trodAll_nil r1
  obtain rfl : args = #[v0, v1] := by cases args; simp_all
  obtain ⟨rfl, rfl⟩ := trodVars_none hV
  obtain ⟨n, rfl⟩ := okWide_int Tryz.underlying3 (hval 0 3 v0 rfl rfl)
  obtain ⟨s0, rfl⟩ := okWide_string Tryz.underlying9 (hval 1 9 v1 rfl rfl)
  obtain ⟨s, hs, hsl⟩ := (op_str Tryz.underlying9).arg h1 rfl (weights_of hsz (j := 1) rfl rfl)
  refine (calls_true (tiOf_agree _) mixed (Fof_agree _) I1_agree (by decide) (isT_some (run n s)).choose_spec (args := #[_, _]) (VRL.cons (VR.mk_int _ _) (VRL.cons hs VRL.nil))).mono fun e W' ⟨he, bel⟩ => ?_
  subst he
  exact ⟨_, rfl, post_true laidOut (by kernel_rfl) rfl (show Tryz.f3.resultTypes = #[4] by kernel_rfl) Tryz.underlying4 hW' rfl bel⟩

theorem row_holds : Rows.WorldNilsSaid :=
  OpenClaim.holds_of_wide 3 Tryz.f3 rfl rfl rfl rfl rfl rfl rfl ⟨rfl, rfl, rfl, rfl, rfl⟩ rfl rfl rfl rfl rfl (by kernel_rfl) Tryz.func3 (by kernel_rfl)
    (of_decide_eq_true (by kernel_rfl)) (by unfold Func.isWrapper; first | (rw [if_pos (by decide +kernel)]; kernel_rfl) | (rw [if_neg (by decide +kernel)]; exact ⟨rfl, rfl⟩))
    (fun os started H enc _ => lifted os started H enc)
#print axioms row_holds
end Go.Proofs.YtgfbblhbhdjocaaGreat.NilsW
