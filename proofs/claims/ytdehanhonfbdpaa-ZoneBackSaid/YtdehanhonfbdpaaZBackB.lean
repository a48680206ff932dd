/- ZoneBack: what was put is read back, and pieces in any order have just the zones of the list, for all networks, lists and orders. Own work. -/
import Derived.Test.YtdehanhonfbdpaaRows
import Derived.Test.YtdehanhonfbdpaaAmOpen
import Derived.Test.YtdehanhonfbdpaaZbkJ
import Derived.ShutString
import Derived.ChangeOld
namespace Go.Proofs.Ytdehanhonfbdpaa.ZBackB
open Go Go.AM Go.AM.Sx Go.RowKit Go.ChangeShapes Go.WideShapes Go.ChangeAt
open Go.ChangeMaps (open_string shut_string)
set_option linter.unusedVariables false
theorem own : ownKnob Try.prog.godebug = none := by kernel_rfl
theorem laidOut : laidOutB Try.prog = true := by kernel_rfl
theorem mixed : Try.prog.follows .mixedOrders = true := by decide +kernel
theorem op_byte {H : Type} {enc : TypeId × Value → H} {P : Program} {W : World} {t : TypeId} (ht : P.underlying t = some (.int .u8)) : Opens enc P W t UInt8 (fun c => [vByte.enc c]) (fun _ => True) := by
  intro fuel cs d ps h hw
  obtain ⟨n, h1, h2⟩ := op_int ht fuel cs d ps h hw
  simp only [Lit.wf, IntKind.min, IntKind.max, IntKind.signed, IntKind.bits, Bool.and_eq_true, decide_eq_true_eq] at h2
  have h3 : 0 ≤ n ∧ n < 256 := by simp at h2; omega
  refine ⟨UInt8.ofNat n.toNat, ?_, trivial⟩
  have h4 : vByte.enc (UInt8.ofNat n.toNat) = .int .u8 n := by
    show AV.int .u8 (((UInt8.ofNat n.toNat).toNat : Nat) : Int) = .int .u8 n
    have : (((UInt8.ofNat n.toNat).toNat : Nat) : Int) = n := by simp; omega
    rw [this]
  show VRL (Img.all W) [vByte.enc (UInt8.ofNat n.toNat)] cs
  rw [h4]
  exact h1
set_option maxRecDepth 100000 in
theorem lifted (os : Os) (started : os.Started) (H : Type) (enc : TypeId × Value → H) :
    ReturnsInHanded {} Try.checked os 7 .any (Rows.zoneBackSpec.pre6 enc Try.prog Try.f7 Rows.zoneBackRow.domain false) (Rows.zoneBackSpec.post enc Try.prog Try.f7 false true false false) := by
  refine returnsInHanded_of_change_sized (C := Try.checked) own started (by kernel_rfl) Try.func7
    (ChangeSpec.witness6 (enc := enc) (C := Try.checked) false ⟨#[], #[.int .i64 0, .slice none 0 0, .slice none 0 0], []⟩ 8 (by kernel_rfl) (by kernel_rfl) (by kernel_rfl) (by kernel_rfl)) ?_
  intro W base args ds gs before hval0 hW hcnd hsz0 _
  have hval : ∀ (j : Nat) t v, Try.f7.params[j]? = some t → args[j]? = some v → Value.okWide Try.prog W .any base t v := hval0
  have hsz : (DataW.weightsEach Try.prog (Try.f7.params.toList ++ Rows.zoneBackSpec.plain.varTypes Try.prog) (ds ++ gs)).all (· ≤ reachBytes) = true := hsz0
  have hW' := hW
  obtain ⟨p, q, hA0, hV, rfl, hfz, hnd⟩ := hW
  have hA : DataW.TrodAll enc Try.prog W 0 (fun _ => true) true Try.f7.params.toList args.toList ds p := hA0
  rw [Try.params7] at hA hval hsz
  obtain ⟨v0, vs0, d0, ds0, p0, q0, hargs, rfl, rfl, h0, r0⟩ := trodAll_cons hA
  obtain ⟨v1, vs1, d1, ds1, p1, q1, rfl, rfl, rfl, h1, r1⟩ := trodAll_cons r0
  obtain ⟨v2, vs2, d2, ds2, p2, q2, rfl, rfl, rfl, h2, r2⟩ := trodAll_cons r1
  obtain ⟨rfl, rfl, rfl⟩ := trodAll_nil r2
  obtain rfl : args = #[v0, v1, v2] := by cases args; simp_all
  obtain ⟨rfl, rfl⟩ := trodVars_none hV
  obtain ⟨n0, rfl⟩ := okWide_int Try.underlying3 (hval 0 3 v0 rfl rfl)
  obtain ⟨a, ha, _⟩ := (op_int Try.underlying3).arg h0 rfl (weights_of hsz (j := 0) rfl rfl)
  obtain ⟨a1, len1, cap1, rfl⟩ := okWide_slice Try.underlying23 (hval 1 23 v1 rfl rfl)
  obtain ⟨l, hl, hll⟩ := (op_slice Try.underlying23 (sz := 1) (by kernel_rfl) (by decide) (by decide +kernel) (op_str Try.underlying9)).arg h1 rfl (weights_of hsz (j := 1) rfl rfl)
  rw [flatMap_one] at hl
  obtain ⟨a2, len2, cap2, rfl⟩ := okWide_slice Try.underlying25 (hval 2 25 v2 rfl rfl)
  obtain ⟨o, ho, hoo⟩ := (op_slice Try.underlying25 (sz := 1) (by kernel_rfl) (by decide) (by decide +kernel) (op_byte Try.underlying5)).arg h2 rfl (weights_of hsz (j := 2) rfl rfl)
  rw [flatMap_one] at ho
  obtain ⟨h', hc⟩ := Go.AM.X.P.law7 a l o hll hoo.1
  refine (calls_true Go.AM.X.hT Go.AM.X.hmix Go.AM.X.hF Go.AM.X.P.D8 (by decide) hc (args := #[_, _, _]) (VRL.cons ha (VRL.cons hl (VRL.cons ho VRL.nil)))).mono fun e W' ⟨he, bel⟩ => ?_
  subst he
  exact ⟨_, rfl, post_true laidOut (by kernel_rfl) rfl (show Try.f7.resultTypes = #[4] by kernel_rfl) Try.underlying4 hW' rfl bel⟩
theorem row_holds : Rows.ZoneBackSaid :=
  OpenClaim.holds_of_wide 7 Try.f7 rfl rfl rfl rfl rfl rfl rfl ⟨rfl, rfl, rfl, rfl, rfl⟩ rfl rfl rfl rfl rfl (by kernel_rfl) Try.func7 (by kernel_rfl)
    (of_decide_eq_true (by kernel_rfl)) (by unfold Func.isWrapper; first | (rw [if_pos (by decide +kernel)]; kernel_rfl) | (rw [if_neg (by decide +kernel)]; exact ⟨rfl, rfl⟩))
    (fun os started H enc _ => lifted os started H enc)
#print axioms row_holds
end Go.Proofs.Ytdehanhonfbdpaa.ZBackB
