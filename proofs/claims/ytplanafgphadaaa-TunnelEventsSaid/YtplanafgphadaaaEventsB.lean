/- TunnelEvents: the bytes of events, and the events of bytes, there and back: program and document agree, for all lists and bytes. Own work. -/
import Derived.Test.YtplanafgphadaaaRows
import Derived.Test.YtplanafgphadaaaAmOpen
import Derived.Test.YtplanafgphadaaaTegF
import Derived.ShutString
import Derived.ChangeOld
namespace Go.Proofs.Ytplanafgphadaaa.EventsB
open Go Go.AM Go.AM.Sx Go.RowKit Go.ChangeShapes Go.WideShapes Go.ChangeAt
open Go.ChangeMaps (open_string shut_string)
set_option linter.unusedVariables false
theorem own : ownKnob Try.prog.godebug = none := by kernel_rfl
theorem laidOut : laidOutB Try.prog = true := by kernel_rfl
theorem mixed : Try.prog.follows .mixedOrders = true := by decide +kernel
abbrev TpT := Int × Int × Int × Unit
abbrev EvT := Int × TpT × Unit
def toEv (p : EvT) : Go.AM.X.Ev := ⟨p.1, p.2.1.1, p.2.1.2.1, p.2.1.2.2.1⟩
def enTp (p : TpT) : List AV := [.int .i64 p.1] ++ ([.int .i64 p.2.1] ++ ([.int .i64 p.2.2.1] ++ []))
def enEv (p : EvT) : List AV := [.int .i64 p.1] ++ (enTp p.2.1 ++ [])
set_option maxRecDepth 100000 in
theorem op_tp {H : Type} {enc : TypeId × Value → H} {W : World} : ∃ ok, Opens enc Try.prog W 90 TpT enTp ok :=
  ⟨_, op_struct Try.underlying90 (N := 3) (by kernel_rfl) (ofs_cons (sz := 1) rfl (by kernel_rfl) (op_int Try.underlying3) (ofs_cons (sz := 1) rfl (by kernel_rfl) (op_int Try.underlying3) (ofs_cons (sz := 1) rfl (by kernel_rfl) (op_int Try.underlying3) ofs_nil)))⟩
set_option maxRecDepth 100000 in
theorem op_ev {H : Type} {enc : TypeId × Value → H} {W : World} : ∃ ok, Opens enc Try.prog W 92 EvT enEv ok := by
  obtain ⟨ok, ho⟩ := op_tp (enc := enc) (W := W)
  exact ⟨_, op_struct Try.underlying92 (N := 4) (by kernel_rfl) (ofs_cons (sz := 1) rfl (by kernel_rfl) (op_int Try.underlying3) (ofs_cons (sz := 3) rfl (by kernel_rfl) ho ofs_nil))⟩
theorem flat_ev (l : List EvT) : l.flatMap enEv = fl Go.AM.X.Ev.av (l.map toEv) := by
  unfold fl
  rw [List.flatMap_map]
  congr 1
theorem u8_bounds {x : Int} (h : (Lit.int .u8 x).wf = true) : 0 ≤ x ∧ x ≤ 255 := by
  simp only [Lit.wf, IntKind.min, IntKind.max, IntKind.signed, IntKind.bits, Bool.and_eq_true] at h
  have h1 := h.1
  have h2 := h.2
  simp at h1 h2
  omega
theorem no_tab (W : World) : ∀ k arr, tablesOf Try.prog k = some arr → fzAll W k = some arr := by
  intro k arr h
  have hg : Try.prog.globalNamed "internal/strconv.uint64pow10" = none := by kernel_rfl
  unfold tablesOf at h
  rw [hg, if_neg (by simp)] at h
  cases h
set_option maxRecDepth 100000 in
theorem lifted (os : Os) (started : os.Started) (H : Type) (enc : TypeId × Value → H) :
    ReturnsInHanded {} Try.checked os 4 .any (Rows.tunnelEventsSpec.pre6 enc Try.prog Try.f4 Rows.tunnelEventsRow.domain false) (Rows.tunnelEventsSpec.post enc Try.prog Try.f4 false true false false) := by
  refine returnsInHanded_of_change_sized (C := Try.checked) own started (by kernel_rfl) Try.func4
    (ChangeSpec.witness6 (enc := enc) (C := Try.checked) false ⟨#[], #[.slice none 0 0, .slice none 0 0], []⟩ 8 (by kernel_rfl) (by kernel_rfl) (by kernel_rfl) (by kernel_rfl)) ?_
  intro W base args ds gs before hval0 hW hcnd hsz0 _
  have hval : ∀ (j : Nat) t v, Try.f4.params[j]? = some t → args[j]? = some v → Value.okWide Try.prog W .any base t v := hval0
  have hsz : (DataW.weightsEach Try.prog (Try.f4.params.toList ++ Rows.tunnelEventsSpec.plain.varTypes Try.prog) (ds ++ gs)).all (· ≤ reachBytes) = true := hsz0
  have hW' := hW
  obtain ⟨p, q, hA0, hV, rfl, hfz, hnd⟩ := hW
  have hA : DataW.TrodAll enc Try.prog W 0 (fun _ => true) true Try.f4.params.toList args.toList ds p := hA0
  rw [Try.params4] at hA hval hsz
  obtain ⟨v0, vs0, d0, ds0, p0, q0, hargs, rfl, rfl, h0, r0⟩ := trodAll_cons hA
  obtain ⟨v1, vs1, d1, ds1, p1, q1, rfl, rfl, rfl, h1, r1⟩ := trodAll_cons r0
  obtain ⟨rfl, rfl, rfl⟩ := trodAll_nil r1
  obtain rfl : args = #[v0, v1] := by cases args; simp_all
  obtain ⟨rfl, rfl⟩ := trodVars_none hV
  obtain ⟨a1, len1, cap1, rfl⟩ := okWide_slice Try.underlying33 (hval 0 33 v0 rfl rfl)
  obtain ⟨ok, ho⟩ := op_ev (enc := enc) (W := W)
  obtain ⟨l, hl, hll⟩ := (op_slice Try.underlying33 (sz := 4) (by kernel_rfl) (by decide) (by decide +kernel) ho).arg h0 rfl (weights_of hsz (j := 0) rfl rfl)
  obtain ⟨a2, len2, cap2, rfl⟩ := okWide_slice Try.underlying34 (hval 1 34 v1 rfl rfl)
  obtain ⟨w, hw, hwl⟩ := (op_slice Try.underlying34 (sz := 1) (by kernel_rfl) (by decide) (by decide +kernel) (op_int Try.underlying5)).arg h1 rfl (weights_of hsz (j := 1) rfl rfl)
  rw [flatMap_one] at hw
  rw [flat_ev] at hl
  have hlen : (l.map toEv).length = l.length := List.length_map ..
  rw [← hlen] at hl
  obtain ⟨h', hc⟩ := Go.AM.X.lawE (l.map toEv) w (fun x hx => u8_bounds (hwl.2 x hx))
  refine (calls_true Go.AM.X.hT Go.AM.X.hmix Go.AM.X.hF Go.AM.X.A8 (by decide) hc (no_tab W) (args := #[_, _]) (VRL.cons hl (VRL.cons hw VRL.nil))).mono fun e W' ⟨he, bel⟩ => ?_
  subst he
  exact ⟨_, rfl, post_true laidOut (by kernel_rfl) rfl (show Try.f4.resultTypes = #[4] by kernel_rfl) Try.underlying4 hW' rfl bel⟩
theorem row_holds : Rows.TunnelEventsSaid :=
  OpenClaim.holds_of_wide 4 Try.f4 rfl rfl rfl rfl rfl rfl rfl ⟨rfl, rfl, rfl, rfl, rfl⟩ rfl rfl rfl rfl rfl (by kernel_rfl) Try.func4 (by kernel_rfl)
    (of_decide_eq_true (by kernel_rfl)) (by unfold Func.isWrapper; first | (rw [if_pos (by decide +kernel)]; kernel_rfl) | (rw [if_neg (by decide +kernel)]; exact ⟨rfl, rfl⟩))
    (fun os started H enc _ => lifted os started H enc)
#print axioms row_holds
end Go.Proofs.Ytplanafgphadaaa.EventsB
