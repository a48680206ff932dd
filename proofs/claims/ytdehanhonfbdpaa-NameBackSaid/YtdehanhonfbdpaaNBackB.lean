/- NameBack: what was put is read back, and texts are: program and document agree, for all of them. Own work. -/
import Derived.Test.YtdehanhonfbdpaaRows
import Derived.Test.YtdehanhonfbdpaaAmOpen
import Derived.Test.YtdehanhonfbdpaaNbtL
import Derived.ShutString
import Derived.ChangeOld
namespace Go.Proofs.Ytdehanhonfbdpaa.NBackB
open Go Go.AM Go.AM.Sx Go.RowKit Go.ChangeShapes Go.WideShapes Go.ChangeAt
open Go.ChangeMaps (open_string shut_string)
set_option linter.unusedVariables false
theorem own : ownKnob Try.prog.godebug = none := by kernel_rfl
theorem laidOut : laidOutB Try.prog = true := by kernel_rfl
theorem mixed : Try.prog.follows .mixedOrders = true := by decide +kernel
/-- The tuples of the opener, as entries. -/
def toNm (p : (List UInt8 × List UInt8 × List UInt8 × Unit) × (Int × Int × Unit) × Int × Int × Unit) : Go.AM.X.P.Nm := ⟨⟨p.1.1, p.1.2.1, p.1.2.2.1⟩, p.2.1.1, p.2.1.2.1, p.2.2.1, p.2.2.2.1⟩
set_option maxRecDepth 100000 in
theorem op_nm {H : Type} {enc : TypeId × Value → H} {W : World} : ∃ ok, Opens enc Try.prog W 70 ((List UInt8 × List UInt8 × List UInt8 × Unit) × (Int × Int × Unit) × Int × Int × Unit) (fun p => ([.str p.1.1] ++ ([.str p.1.2.1] ++ ([.str p.1.2.2.1] ++ []))) ++ (([.int .i64 p.2.1.1] ++ ([.int .i64 p.2.1.2.1] ++ [])) ++ ([.int .i64 p.2.2.1] ++ ([.int .i64 p.2.2.2.1] ++ [])))) ok ∧ ∀ p, ok p → Go.AM.X.okE (toNm p).name :=
  ⟨_, op_struct Try.underlying70 (N := 7) (by kernel_rfl) (ofs_cons (sz := 3) rfl (by kernel_rfl)
      (op_struct Try.underlying48 (N := 3) (by kernel_rfl) (ofs_cons (sz := 1) rfl (by kernel_rfl) (op_str Try.underlying9) (ofs_cons (sz := 1) rfl (by kernel_rfl) (op_str Try.underlying9) (ofs_cons (sz := 1) rfl (by kernel_rfl) (op_str Try.underlying9) ofs_nil))))
      (ofs_cons (sz := 2) rfl (by kernel_rfl) (op_struct Try.underlying68 (N := 2) (by kernel_rfl) (ofs_cons (sz := 1) rfl (by kernel_rfl) (op_int Try.underlying3) (ofs_cons (sz := 1) rfl (by kernel_rfl) (op_int Try.underlying3) ofs_nil)))
      (ofs_cons (sz := 1) rfl (by kernel_rfl) (op_int Try.underlying3) (ofs_cons (sz := 1) rfl (by kernel_rfl) (op_int Try.underlying3) ofs_nil)))), fun p h => ⟨h.1.1, h.1.2.1, h.1.2.2.1⟩⟩
theorem flat_nm (l : List ((List UInt8 × List UInt8 × List UInt8 × Unit) × (Int × Int × Unit) × Int × Int × Unit)) : l.flatMap (fun p => ([AV.str p.1.1] ++ ([.str p.1.2.1] ++ ([.str p.1.2.2.1] ++ []))) ++ (([.int .i64 p.2.1.1] ++ ([.int .i64 p.2.1.2.1] ++ [])) ++ ([.int .i64 p.2.2.1] ++ ([.int .i64 p.2.2.2.1] ++ [])))) = (l.map toNm).flatMap Go.AM.X.P.Nm.cells := by
  rw [List.flatMap_map]; rfl
set_option maxRecDepth 100000 in
theorem lifted (os : Os) (started : os.Started) (H : Type) (enc : TypeId × Value → H) :
    ReturnsInHanded {} Try.checked os 11 .any (Rows.nameBackSpec.pre6 enc Try.prog Try.f11 Rows.nameBackRow.domain false) (Rows.nameBackSpec.post enc Try.prog Try.f11 false true false false) := by
  refine returnsInHanded_of_change_sized (C := Try.checked) own started (by kernel_rfl) Try.func11
    (ChangeSpec.witness6 (enc := enc) (C := Try.checked) false ⟨#[], #[.int .i64 0, .int .i64 0, .slice none 0 0], []⟩ 8 (by kernel_rfl) (by kernel_rfl) (by kernel_rfl) (by kernel_rfl)) ?_
  intro W base args ds gs before hval0 hW hcnd hsz0 _
  have hval : ∀ (j : Nat) t v, Try.f11.params[j]? = some t → args[j]? = some v → Value.okWide Try.prog W .any base t v := hval0
  have hsz : (DataW.weightsEach Try.prog (Try.f11.params.toList ++ Rows.nameBackSpec.plain.varTypes Try.prog) (ds ++ gs)).all (· ≤ reachBytes) = true := hsz0
  have hW' := hW
  obtain ⟨p, q, hA0, hV, rfl, hfz, hnd⟩ := hW
  have hA : DataW.TrodAll enc Try.prog W 0 (fun _ => true) true Try.f11.params.toList args.toList ds p := hA0
  rw [Try.params11] at hA hval hsz
  obtain ⟨v0, vs0, d0, ds0, p0, q0, hargs, rfl, rfl, h0, r0⟩ := trodAll_cons hA
  obtain ⟨v1, vs1, d1, ds1, p1, q1, rfl, rfl, rfl, h1, r1⟩ := trodAll_cons r0
  obtain ⟨v2, vs2, d2, ds2, p2, q2, rfl, rfl, rfl, h2, r2⟩ := trodAll_cons r1
  obtain ⟨rfl, rfl, rfl⟩ := trodAll_nil r2
  obtain rfl : args = #[v0, v1, v2] := by cases args; simp_all
  obtain ⟨rfl, rfl⟩ := trodVars_none hV
  obtain ⟨n0, rfl⟩ := okWide_int Try.underlying3 (hval 0 3 v0 rfl rfl)
  obtain ⟨a, ha, _⟩ := (op_int Try.underlying3).arg h0 rfl (weights_of hsz (j := 0) rfl rfl)
  obtain ⟨n1, rfl⟩ := okWide_int Try.underlying3 (hval 1 3 v1 rfl rfl)
  obtain ⟨b, hb, _⟩ := (op_int Try.underlying3).arg h1 rfl (weights_of hsz (j := 1) rfl rfl)
  obtain ⟨a2, len2, cap2, rfl⟩ := okWide_slice Try.underlying57 (hval 2 57 v2 rfl rfl)
  obtain ⟨ok, ho, hok⟩ := op_nm (enc := enc) (W := W)
  obtain ⟨l, hl, hll⟩ := (op_slice Try.underlying57 (sz := 7) (by kernel_rfl) (by decide) (by decide +kernel) ho).arg h2 rfl (weights_of hsz (j := 2) rfl rfl)
  rw [flat_nm] at hl
  have hlen : (l.map toNm).length = l.length := List.length_map ..
  rw [← hlen] at hl
  obtain ⟨h', hc⟩ := Go.AM.X.P.law11 a b (l.map toNm) (fun x hx => by obtain ⟨y, hy, rfl⟩ := List.mem_map.1 hx; exact hok y (hll.2 y hy)) (by rw [hlen]; exact hll.1)
  refine (calls_true Go.AM.X.hT Go.AM.X.hmix Go.AM.X.hF Go.AM.X.P.Ck7 (by decide) hc (args := #[_, _, _]) (VRL.cons ha (VRL.cons hb (VRL.cons hl VRL.nil)))).mono fun e W' ⟨he, bel⟩ => ?_
  subst he
  exact ⟨_, rfl, post_true laidOut (by kernel_rfl) rfl (show Try.f11.resultTypes = #[4] by kernel_rfl) Try.underlying4 hW' rfl bel⟩
theorem row_holds : Rows.NameBackSaid :=
  OpenClaim.holds_of_wide 11 Try.f11 rfl rfl rfl rfl rfl rfl rfl ⟨rfl, rfl, rfl, rfl, rfl⟩ rfl rfl rfl rfl rfl (by kernel_rfl) Try.func11 (by kernel_rfl)
    (of_decide_eq_true (by kernel_rfl)) (by unfold Func.isWrapper; first | (rw [if_pos (by decide +kernel)]; kernel_rfl) | (rw [if_neg (by decide +kernel)]; exact ⟨rfl, rfl⟩))
    (fun os started H enc _ => lifted os started H enc)
#print axioms row_holds
end Go.Proofs.Ytdehanhonfbdpaa.NBackB
