/- TunnelNils: what a nil end, and one that is a zero value, return: the run asks of the arguments the size of a frame's data alone: the kernel's own run of the abstract machine. Own work. -/
import Derived.Test.YtplanafgphadaaaRows
import Derived.Test.YtplanafgphadaaaAmOpen
import Derived.Test.YtplanafgphadaaaAmGuard
import Derived.KernelRfl
import Derived.ShutString
import Derived.ChangeOld
namespace Go.Proofs.Ytplanafgphadaaa.NilsT
open Go Go.AM Go.AM.Sx Go.RowKit Go.ChangeShapes Go.WideShapes Go.ChangeAt
open Go.ChangeMaps (open_string shut_string)
set_option linter.unusedVariables false
theorem own : ownKnob Try.prog.godebug = none := by kernel_rfl
theorem laidOut : laidOutB Try.prog = true := by kernel_rfl
theorem mixed : Try.prog.follows .mixedOrders = true := by decide +kernel

def args (a b c d : Int) (n : Nat) (cs : List AV) : List AV := [.bad, .agg [.int .i64 a, .int .i64 b, .int .i64 c, .int .i64 d, .lst false 1 n cs]]
noncomputable def fi : FI := (Fof Try.prog 8).getD ⟨.skip, [], false⟩
theorem hfi : Fof Try.prog 8 = some fi := by kernel_rfl
noncomputable def g : GShape := (gshape fi.body).getD ⟨#[], #[], .tmp 0, .skip, .skip⟩
theorem hg : gshape fi.body = some g := by kernel_rfl
noncomputable def C0 : Cf := call (Fof Try.prog) noI (tiOf Try.prog) 60
noncomputable def behind (a b c d : Int) (n : Nat) (cs : List AV) : Env × AH := (gEnd C0 (tiOf Try.prog) g (env0 (args a b c d n cs)) ⟨0, .leaf⟩).getD (fun _ => .bad, ⟨0, .leaf⟩)
theorem hend (a b c d : Int) (n : Nat) (cs : List AV) : gEnd C0 (tiOf Try.prog) g (env0 (args a b c d n cs)) ⟨0, .leaf⟩ = some ((behind a b c d n cs).1, (behind a b c d n cs).2) := by kernel_rfl
theorem hcond (a b c d : Int) (n : Nat) (cs : List AV) : ev (behind a b c d n cs).1 g.c = .bool (decide ((n : Int) > 100)) := by kernel_rfl
theorem runX (a b c d : Int) (n : Nat) (cs : List AV) : isT (code C0 (tiOf Try.prog) 60 false g.a (behind a b c d n cs).1 (behind a b c d n cs).2 (seqK (code C0 (tiOf Try.prog) 60 false g.rest) (retK (tiOf Try.prog) fi.results))) = true := by kernel_rfl
theorem runZ (a b c d : Int) (n : Nat) (cs : List AV) : isT (code C0 (tiOf Try.prog) 60 false g.rest (behind a b c d n cs).1 (behind a b c d n cs).2 (retK (tiOf Try.prog) fi.results)) = true := by kernel_rfl
theorem run (a b c d : Int) (n : Nat) (cs : List AV) : isT (call (Fof Try.prog) noI (tiOf Try.prog) 61 8 (args a b c d n cs) ⟨0, .leaf⟩) = true :=
  guard_law (by decide) rfl hfi (by kernel_rfl) hg (hend a b c d n cs) (hcond a b c d n cs) (runX a b c d n cs) (runZ a b c d n cs)
theorem op_bytes {H : Type} {enc : TypeId × Value → H} {W : World} : Opens enc Try.prog W 34 (List Int) (fun l => [.lst false 1 l.length (l.flatMap fun n => [.int .u8 n])]) (fun l => l.length < 140737488355328 ∧ ∀ x ∈ l, (Lit.int .u8 x).wf = true) :=
  op_slice Try.underlying34 (sz := 1) (by kernel_rfl) (by decide) (by decide +kernel) (op_int Try.underlying5)
theorem op_int3 {H : Type} {enc : TypeId × Value → H} {W : World} : Opens enc Try.prog W 3 Int (fun n => [.int .i64 n]) (fun n => (Lit.int .i64 n).wf = true) := op_int Try.underlying3

set_option maxRecDepth 100000 in
theorem lifted (os : Os) (started : os.Started) (H : Type) (enc : TypeId × Value → H) :
    ReturnsInHanded {} Try.checked os 8 .any (Rows.tunnelNilsSpec.pre6 enc Try.prog Try.f8 Rows.tunnelNilsRow.domain false) (Rows.tunnelNilsSpec.post enc Try.prog Try.f8 false true false false) := by
  refine returnsInHanded_of_change_sized (C := Try.checked) own started (by kernel_rfl) Try.func8
    (ChangeSpec.witness6 (enc := enc) (C := Try.checked) false ⟨#[], #[.int .i64 0, .agg #[.int .i64 0, .int .i64 0, .int .i64 0, .int .i64 0, .slice none 0 0]], []⟩ 8 (by kernel_rfl) (by kernel_rfl) (by kernel_rfl) (by kernel_rfl)) ?_
  intro W base args ds gs before hval0 hW hcnd hsz0 _
  have hval : ∀ (j : Nat) t v, Try.f8.params[j]? = some t → args[j]? = some v → Value.okWide Try.prog W .any base t v := hval0
  have hsz : (DataW.weightsEach Try.prog (Try.f8.params.toList ++ Rows.tunnelNilsSpec.plain.varTypes Try.prog) (ds ++ gs)).all (· ≤ reachBytes) = true := hsz0
  have hW' := hW
  obtain ⟨p, q, hA0, hV, rfl, hfz, hnd⟩ := hW
  have hA : DataW.TrodAll enc Try.prog W 0 (fun _ => true) true Try.f8.params.toList args.toList ds p := hA0
  rw [Try.params8] at hA hval hsz
  obtain ⟨v0, vs0, d0, ds0, p0, q0, hargs, rfl, rfl, h0, r0⟩ := trodAll_cons hA
  obtain ⟨v1, vs1, d1, ds1, p1, q1, rfl, rfl, rfl, h1, r1⟩ := trodAll_cons r0
  obtain ⟨rfl, rfl, rfl⟩ := trodAll_nil r1
  obtain rfl : args = #[v0, v1] := by cases args; simp_all
  obtain ⟨rfl, rfl⟩ := trodVars_none hV
  obtain ⟨cs, rfl, hcs⟩ := okWide_struct Try.underlying63 (hval 1 63 v1 rfl rfl)
  obtain ⟨⟨a, b, c, d, l, _⟩, hl, _⟩ := (op_struct (enc := enc) (W := W) Try.underlying63 (N := 5) (by kernel_rfl) (ofs_cons (sz := 1) rfl (by kernel_rfl) op_int3 (ofs_cons (sz := 1) rfl (by kernel_rfl) op_int3 (ofs_cons (sz := 1) rfl (by kernel_rfl) op_int3 (ofs_cons (sz := 1) rfl (by kernel_rfl) op_int3 (ofs_cons (sz := 1) rfl (by kernel_rfl) op_bytes ofs_nil)))))).argS h1 (weights_of hsz (j := 1) rfl rfl)
  refine (calls_plain mixed (by decide) (run a b c d l.length (l.flatMap fun n => [.int .u8 n])) (args := #[v0, .agg cs]) (VRL.cons (by rw [VR]; trivial) (VRL.cons hl VRL.nil))).mono fun e W' ⟨he, bel⟩ => ?_
  subst he
  exact ⟨_, rfl, post_true laidOut (by kernel_rfl) rfl (show Try.f8.resultTypes = #[4] by kernel_rfl) Try.underlying4 hW' rfl bel⟩

theorem row_holds : Rows.TunnelNilsSaid :=
  OpenClaim.holds_of_wide 8 Try.f8 rfl rfl rfl rfl rfl rfl rfl ⟨rfl, rfl, rfl, rfl, rfl⟩ rfl rfl rfl rfl rfl (by kernel_rfl) Try.func8 (by kernel_rfl)
    (of_decide_eq_true (by kernel_rfl)) (by unfold Func.isWrapper; first | (rw [if_pos (by decide +kernel)]; kernel_rfl) | (rw [if_neg (by decide +kernel)]; exact ⟨rfl, rfl⟩))
    (fun os started H enc _ => lifted os started H enc)
#print axioms row_holds
end Go.Proofs.Ytplanafgphadaaa.NilsT
