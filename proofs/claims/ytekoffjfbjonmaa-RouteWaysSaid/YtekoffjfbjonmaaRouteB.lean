/- RouteTables: what a table answers, its entries and what it tells: program and document agree, for all deeds. Own work. -/
import Derived.Test.YtekoffjfbjonmaaRows
import Derived.Test.YtekoffjfbjonmaaAmOpen
import Derived.Test.YtekoffjfbjonmaaRtgL
import Derived.ShutString
import Derived.ChangeOld
namespace Go.Proofs.Ytekoffjfbjonmaa.TablesB
open Go Go.AM Go.AM.Sx Go.RowKit Go.ChangeShapes Go.WideShapes Go.ChangeAt
open Go.ChangeMaps (open_string shut_string)
set_option linter.unusedVariables false
theorem own : ownKnob Try.prog.godebug = none := by kernel_rfl
theorem laidOut : laidOutB Try.prog = true := by kernel_rfl
theorem mixed : Try.prog.follows .mixedOrders = true := by decide +kernel
abbrev TpT := Int × Int × Int × Unit
abbrev AcT := Int × Int × Int × List TpT × Unit
def toTp (p : TpT) : Go.AM.X.Tp := ⟨p.1, p.2.1, p.2.2.1⟩
def toAc (p : AcT) : Go.AM.X.Ac := ⟨p.1, p.2.1, p.2.2.1, p.2.2.2.1.map toTp⟩
def enTp (p : TpT) : List AV := [.int .i64 p.1] ++ ([.int .i64 p.2.1] ++ ([.int .i64 p.2.2.1] ++ []))
def enAc (p : AcT) : List AV := [.int .i64 p.1] ++ ([.int .i64 p.2.1] ++ ([.int .i64 p.2.2.1] ++ ([.lst false 3 p.2.2.2.1.length (p.2.2.2.1.flatMap enTp)] ++ [])))
set_option maxRecDepth 100000 in
theorem op_tp {H : Type} {enc : TypeId × Value → H} {W : World} : ∃ ok, Opens enc Try.prog W 62 TpT enTp ok :=
  ⟨_, op_struct Try.underlying62 (N := 3) (by kernel_rfl) (ofs_cons (sz := 1) rfl (by kernel_rfl) (op_int Try.underlying3) (ofs_cons (sz := 1) rfl (by kernel_rfl) (op_int Try.underlying3) (ofs_cons (sz := 1) rfl (by kernel_rfl) (op_int Try.underlying3) ofs_nil)))⟩
set_option maxRecDepth 100000 in
theorem op_ac {H : Type} {enc : TypeId × Value → H} {W : World} : ∃ ok, Opens enc Try.prog W 55 AcT enAc ok := by
  obtain ⟨ok, ho⟩ := op_tp (enc := enc) (W := W)
  exact ⟨_, op_struct Try.underlying55 (N := 4) (by kernel_rfl) (ofs_cons (sz := 1) rfl (by kernel_rfl) (op_int Try.underlying3) (ofs_cons (sz := 1) rfl (by kernel_rfl) (op_int Try.underlying3) (ofs_cons (sz := 1) rfl (by kernel_rfl) (op_int Try.underlying3)
    (ofs_cons (sz := 1) rfl (by kernel_rfl) (op_slice Try.underlying22 (sz := 3) (by kernel_rfl) (by decide) (by decide +kernel) ho) ofs_nil))))⟩
theorem en_ac (p : AcT) : enAc p = Go.AM.X.Ac.av (toAc p) := by
  unfold enAc Go.AM.X.Ac.av toAc fl
  simp only [List.length_map, List.flatMap_map]
  rfl
theorem flat_ac (l : List AcT) : l.flatMap enAc = fl Go.AM.X.Ac.av (l.map toAc) := by
  unfold fl
  rw [List.flatMap_map]
  congr 1
  exact funext en_ac
theorem no_tab (W : World) : ∀ k arr, tablesOf Try.prog k = some arr → fzAll W k = some arr := by
  intro k arr h
  have hg : Try.prog.globalNamed "internal/strconv.uint64pow10" = none := by kernel_rfl
  unfold tablesOf at h
  rw [hg, if_neg (by simp)] at h
  cases h
set_option maxRecDepth 100000 in
theorem lifted (os : Os) (started : os.Started) (H : Type) (enc : TypeId × Value → H) :
    ReturnsInHanded {} Try.checked os 4 .any (Rows.routeTablesSpec.pre6 enc Try.prog Try.f4 Rows.routeTablesRow.domain false) (Rows.routeTablesSpec.post enc Try.prog Try.f4 false true false false) := by
  refine returnsInHanded_of_change_sized (C := Try.checked) own started (by kernel_rfl) Try.func4
    (ChangeSpec.witness6 (enc := enc) (C := Try.checked) false ⟨#[], #[.slice none 0 0], []⟩ 8 (by kernel_rfl) (by kernel_rfl) (by kernel_rfl) (by kernel_rfl)) ?_
  intro W base args ds gs before hval0 hW hcnd hsz0 _
  have hval : ∀ (j : Nat) t v, Try.f4.params[j]? = some t → args[j]? = some v → Value.okWide Try.prog W .any base t v := hval0
  have hsz : (DataW.weightsEach Try.prog (Try.f4.params.toList ++ Rows.routeTablesSpec.plain.varTypes Try.prog) (ds ++ gs)).all (· ≤ reachBytes) = true := hsz0
  have hW' := hW
  obtain ⟨p, q, hA0, hV, rfl, hfz, hnd⟩ := hW
  have hA : DataW.TrodAll enc Try.prog W 0 (fun _ => true) true Try.f4.params.toList args.toList ds p := hA0
  rw [Try.params4] at hA hval hsz
  obtain ⟨v0, vs0, d0, ds0, p0, q0, hargs, rfl, rfl, h0, r0⟩ := trodAll_cons hA
  obtain ⟨rfl, rfl, rfl⟩ := trodAll_nil r0
  obtain rfl : args = #[v0] := by cases args; simp_all
  obtain ⟨rfl, rfl⟩ := trodVars_none hV
  obtain ⟨a1, len1, cap1, rfl⟩ := okWide_slice Try.underlying45 (hval 0 45 v0 rfl rfl)
  obtain ⟨ok, ho⟩ := op_ac (enc := enc) (W := W)
  obtain ⟨l, hl, hll⟩ := (op_slice Try.underlying45 (sz := 4) (by kernel_rfl) (by decide) (by decide +kernel) ho).arg h0 rfl (weights_of hsz (j := 0) rfl rfl)
  rw [flat_ac] at hl
  have hlen : (l.map toAc).length = l.length := List.length_map ..
  rw [← hlen] at hl
  obtain ⟨h', hc⟩ := Go.AM.X.lawT (l.map toAc) (by rw [hlen]; exact hll.1)
  refine (calls_true Go.AM.X.hT Go.AM.X.hmix Go.AM.X.hF Go.AM.X.A2 (by decide) hc (no_tab W) (args := #[_]) (VRL.cons hl VRL.nil)).mono fun e W' ⟨he, bel⟩ => ?_
  subst he
  exact ⟨_, rfl, post_true laidOut (by kernel_rfl) rfl (show Try.f4.resultTypes = #[4] by kernel_rfl) Try.underlying4 hW' rfl bel⟩
theorem row_holds : Rows.RouteTablesSaid :=
  OpenClaim.holds_of_wide 4 Try.f4 rfl rfl rfl rfl rfl rfl rfl ⟨rfl, rfl, rfl, rfl, rfl⟩ rfl rfl rfl rfl rfl (by kernel_rfl) Try.func4 (by kernel_rfl)
    (of_decide_eq_true (by kernel_rfl)) (by unfold Func.isWrapper; first | (rw [if_pos (by decide +kernel)]; kernel_rfl) | (rw [if_neg (by decide +kernel)]; exact ⟨rfl, rfl⟩))
    (fun os started H enc _ => lifted os started H enc)
#print axioms row_holds
end Go.Proofs.Ytekoffjfbjonmaa.TablesB
namespace Go.Proofs.Ytekoffjfbjonmaa.ApartB
open Go Go.AM Go.AM.Sx Go.RowKit Go.ChangeShapes Go.WideShapes Go.ChangeAt
open Go.ChangeMaps (open_string shut_string)
set_option linter.unusedVariables false
theorem own : ownKnob Try.prog.godebug = none := by kernel_rfl
theorem laidOut : laidOutB Try.prog = true := by kernel_rfl
theorem mixed : Try.prog.follows .mixedOrders = true := by decide +kernel
abbrev TpT := Int × Int × Int × Unit
abbrev AcT := Int × Int × Int × List TpT × Unit
def toTp (p : TpT) : Go.AM.X.Tp := ⟨p.1, p.2.1, p.2.2.1⟩
def toAc (p : AcT) : Go.AM.X.Ac := ⟨p.1, p.2.1, p.2.2.1, p.2.2.2.1.map toTp⟩
def enTp (p : TpT) : List AV := [.int .i64 p.1] ++ ([.int .i64 p.2.1] ++ ([.int .i64 p.2.2.1] ++ []))
def enAc (p : AcT) : List AV := [.int .i64 p.1] ++ ([.int .i64 p.2.1] ++ ([.int .i64 p.2.2.1] ++ ([.lst false 3 p.2.2.2.1.length (p.2.2.2.1.flatMap enTp)] ++ [])))
set_option maxRecDepth 100000 in
theorem op_tp {H : Type} {enc : TypeId × Value → H} {W : World} : ∃ ok, Opens enc Try.prog W 62 TpT enTp ok :=
  ⟨_, op_struct Try.underlying62 (N := 3) (by kernel_rfl) (ofs_cons (sz := 1) rfl (by kernel_rfl) (op_int Try.underlying3) (ofs_cons (sz := 1) rfl (by kernel_rfl) (op_int Try.underlying3) (ofs_cons (sz := 1) rfl (by kernel_rfl) (op_int Try.underlying3) ofs_nil)))⟩
set_option maxRecDepth 100000 in
theorem op_ac {H : Type} {enc : TypeId × Value → H} {W : World} : ∃ ok, Opens enc Try.prog W 55 AcT enAc ok := by
  obtain ⟨ok, ho⟩ := op_tp (enc := enc) (W := W)
  exact ⟨_, op_struct Try.underlying55 (N := 4) (by kernel_rfl) (ofs_cons (sz := 1) rfl (by kernel_rfl) (op_int Try.underlying3) (ofs_cons (sz := 1) rfl (by kernel_rfl) (op_int Try.underlying3) (ofs_cons (sz := 1) rfl (by kernel_rfl) (op_int Try.underlying3)
    (ofs_cons (sz := 1) rfl (by kernel_rfl) (op_slice Try.underlying22 (sz := 3) (by kernel_rfl) (by decide) (by decide +kernel) ho) ofs_nil))))⟩
theorem en_ac (p : AcT) : enAc p = Go.AM.X.Ac.av (toAc p) := by
  unfold enAc Go.AM.X.Ac.av toAc fl
  simp only [List.length_map, List.flatMap_map]
  rfl
theorem flat_ac (l : List AcT) : l.flatMap enAc = fl Go.AM.X.Ac.av (l.map toAc) := by
  unfold fl
  rw [List.flatMap_map]
  congr 1
  exact funext en_ac
theorem no_tab (W : World) : ∀ k arr, tablesOf Try.prog k = some arr → fzAll W k = some arr := by
  intro k arr h
  have hg : Try.prog.globalNamed "internal/strconv.uint64pow10" = none := by kernel_rfl
  unfold tablesOf at h
  rw [hg, if_neg (by simp)] at h
  cases h
set_option maxRecDepth 100000 in
theorem lifted (os : Os) (started : os.Started) (H : Type) (enc : TypeId × Value → H) :
    ReturnsInHanded {} Try.checked os 5 .any (Rows.routeApartSpec.pre6 enc Try.prog Try.f5 Rows.routeApartRow.domain false) (Rows.routeApartSpec.post enc Try.prog Try.f5 false true false false) := by
  refine returnsInHanded_of_change_sized (C := Try.checked) own started (by kernel_rfl) Try.func5
    (ChangeSpec.witness6 (enc := enc) (C := Try.checked) false ⟨#[], #[.slice none 0 0], []⟩ 8 (by kernel_rfl) (by kernel_rfl) (by kernel_rfl) (by kernel_rfl)) ?_
  intro W base args ds gs before hval0 hW hcnd hsz0 _
  have hval : ∀ (j : Nat) t v, Try.f5.params[j]? = some t → args[j]? = some v → Value.okWide Try.prog W .any base t v := hval0
  have hsz : (DataW.weightsEach Try.prog (Try.f5.params.toList ++ Rows.routeApartSpec.plain.varTypes Try.prog) (ds ++ gs)).all (· ≤ reachBytes) = true := hsz0
  have hW' := hW
  obtain ⟨p, q, hA0, hV, rfl, hfz, hnd⟩ := hW
  have hA : DataW.TrodAll enc Try.prog W 0 (fun _ => true) true Try.f5.params.toList args.toList ds p := hA0
  rw [Try.params5] at hA hval hsz
  obtain ⟨v0, vs0, d0, ds0, p0, q0, hargs, rfl, rfl, h0, r0⟩ := trodAll_cons hA
  obtain ⟨rfl, rfl, rfl⟩ := trodAll_nil r0
  obtain rfl : args = #[v0] := by cases args; simp_all
  obtain ⟨rfl, rfl⟩ := trodVars_none hV
  obtain ⟨a1, len1, cap1, rfl⟩ := okWide_slice Try.underlying45 (hval 0 45 v0 rfl rfl)
  obtain ⟨ok, ho⟩ := op_ac (enc := enc) (W := W)
  obtain ⟨l, hl, hll⟩ := (op_slice Try.underlying45 (sz := 4) (by kernel_rfl) (by decide) (by decide +kernel) ho).arg h0 rfl (weights_of hsz (j := 0) rfl rfl)
  rw [flat_ac] at hl
  have hlen : (l.map toAc).length = l.length := List.length_map ..
  rw [← hlen] at hl
  obtain ⟨h', hc⟩ := Go.AM.X.lawA (l.map toAc) (by rw [hlen]; exact hll.1)
  refine (calls_true Go.AM.X.hT Go.AM.X.hmix Go.AM.X.hF Go.AM.X.A2 (by decide) hc (no_tab W) (args := #[_]) (VRL.cons hl VRL.nil)).mono fun e W' ⟨he, bel⟩ => ?_
  subst he
  exact ⟨_, rfl, post_true laidOut (by kernel_rfl) rfl (show Try.f5.resultTypes = #[4] by kernel_rfl) Try.underlying4 hW' rfl bel⟩
theorem row_holds : Rows.RouteApartSaid :=
  OpenClaim.holds_of_wide 5 Try.f5 rfl rfl rfl rfl rfl rfl rfl ⟨rfl, rfl, rfl, rfl, rfl⟩ rfl rfl rfl rfl rfl (by kernel_rfl) Try.func5 (by kernel_rfl)
    (of_decide_eq_true (by kernel_rfl)) (by unfold Func.isWrapper; first | (rw [if_pos (by decide +kernel)]; kernel_rfl) | (rw [if_neg (by decide +kernel)]; exact ⟨rfl, rfl⟩))
    (fun os started H enc _ => lifted os started H enc)
#print axioms row_holds
end Go.Proofs.Ytekoffjfbjonmaa.ApartB
namespace Go.Proofs.Ytekoffjfbjonmaa.WaysB
open Go Go.AM Go.AM.Sx Go.RowKit Go.ChangeShapes Go.WideShapes Go.ChangeAt
open Go.ChangeMaps (open_string shut_string)
set_option linter.unusedVariables false
theorem own : ownKnob Try.prog.godebug = none := by kernel_rfl
theorem laidOut : laidOutB Try.prog = true := by kernel_rfl
theorem mixed : Try.prog.follows .mixedOrders = true := by decide +kernel
abbrev TpT := Int × Int × Int × Unit
abbrev AcT := Int × Int × Int × List TpT × Unit
def toTp (p : TpT) : Go.AM.X.Tp := ⟨p.1, p.2.1, p.2.2.1⟩
def toAc (p : AcT) : Go.AM.X.Ac := ⟨p.1, p.2.1, p.2.2.1, p.2.2.2.1.map toTp⟩
def enTp (p : TpT) : List AV := [.int .i64 p.1] ++ ([.int .i64 p.2.1] ++ ([.int .i64 p.2.2.1] ++ []))
def enAc (p : AcT) : List AV := [.int .i64 p.1] ++ ([.int .i64 p.2.1] ++ ([.int .i64 p.2.2.1] ++ ([.lst false 3 p.2.2.2.1.length (p.2.2.2.1.flatMap enTp)] ++ [])))
set_option maxRecDepth 100000 in
theorem op_tp {H : Type} {enc : TypeId × Value → H} {W : World} : ∃ ok, Opens enc Try.prog W 62 TpT enTp ok :=
  ⟨_, op_struct Try.underlying62 (N := 3) (by kernel_rfl) (ofs_cons (sz := 1) rfl (by kernel_rfl) (op_int Try.underlying3) (ofs_cons (sz := 1) rfl (by kernel_rfl) (op_int Try.underlying3) (ofs_cons (sz := 1) rfl (by kernel_rfl) (op_int Try.underlying3) ofs_nil)))⟩
set_option maxRecDepth 100000 in
theorem op_ac {H : Type} {enc : TypeId × Value → H} {W : World} : ∃ ok, Opens enc Try.prog W 55 AcT enAc ok := by
  obtain ⟨ok, ho⟩ := op_tp (enc := enc) (W := W)
  exact ⟨_, op_struct Try.underlying55 (N := 4) (by kernel_rfl) (ofs_cons (sz := 1) rfl (by kernel_rfl) (op_int Try.underlying3) (ofs_cons (sz := 1) rfl (by kernel_rfl) (op_int Try.underlying3) (ofs_cons (sz := 1) rfl (by kernel_rfl) (op_int Try.underlying3)
    (ofs_cons (sz := 1) rfl (by kernel_rfl) (op_slice Try.underlying22 (sz := 3) (by kernel_rfl) (by decide) (by decide +kernel) ho) ofs_nil))))⟩
theorem en_ac (p : AcT) : enAc p = Go.AM.X.Ac.av (toAc p) := by
  unfold enAc Go.AM.X.Ac.av toAc fl
  simp only [List.length_map, List.flatMap_map]
  rfl
theorem flat_ac (l : List AcT) : l.flatMap enAc = fl Go.AM.X.Ac.av (l.map toAc) := by
  unfold fl
  rw [List.flatMap_map]
  congr 1
  exact funext en_ac
theorem no_tab (W : World) : ∀ k arr, tablesOf Try.prog k = some arr → fzAll W k = some arr := by
  intro k arr h
  have hg : Try.prog.globalNamed "internal/strconv.uint64pow10" = none := by kernel_rfl
  unfold tablesOf at h
  rw [hg, if_neg (by simp)] at h
  cases h
set_option maxRecDepth 100000 in
theorem lifted (os : Os) (started : os.Started) (H : Type) (enc : TypeId × Value → H) :
    ReturnsInHanded {} Try.checked os 6 .any (Rows.routeWaysSpec.pre6 enc Try.prog Try.f6 Rows.routeWaysRow.domain false) (Rows.routeWaysSpec.post enc Try.prog Try.f6 false true false false) := by
  refine returnsInHanded_of_change_sized (C := Try.checked) own started (by kernel_rfl) Try.func6
    (ChangeSpec.witness6 (enc := enc) (C := Try.checked) false ⟨#[], #[.slice none 0 0, .slice none 0 0], []⟩ 8 (by kernel_rfl) (by kernel_rfl) (by kernel_rfl) (by kernel_rfl)) ?_
  intro W base args ds gs before hval0 hW hcnd hsz0 _
  have hval : ∀ (j : Nat) t v, Try.f6.params[j]? = some t → args[j]? = some v → Value.okWide Try.prog W .any base t v := hval0
  have hsz : (DataW.weightsEach Try.prog (Try.f6.params.toList ++ Rows.routeWaysSpec.plain.varTypes Try.prog) (ds ++ gs)).all (· ≤ reachBytes) = true := hsz0
  have hW' := hW
  obtain ⟨p, q, hA0, hV, rfl, hfz, hnd⟩ := hW
  have hA : DataW.TrodAll enc Try.prog W 0 (fun _ => true) true Try.f6.params.toList args.toList ds p := hA0
  rw [Try.params6] at hA hval hsz
  obtain ⟨v0, vs0, d0, ds0, p0, q0, hargs, rfl, rfl, h0, r0⟩ := trodAll_cons hA
  obtain ⟨v1, vs1, d1, ds1, p1, q1, rfl, rfl, rfl, h1, r1⟩ := trodAll_cons r0
  obtain ⟨rfl, rfl, rfl⟩ := trodAll_nil r1
  obtain rfl : args = #[v0, v1] := by cases args; simp_all
  obtain ⟨rfl, rfl⟩ := trodVars_none hV
  obtain ⟨a1, len1, cap1, rfl⟩ := okWide_slice Try.underlying45 (hval 0 45 v0 rfl rfl)
  obtain ⟨ok, ho⟩ := op_ac (enc := enc) (W := W)
  obtain ⟨l, hl, hll⟩ := (op_slice Try.underlying45 (sz := 4) (by kernel_rfl) (by decide) (by decide +kernel) ho).arg h0 rfl (weights_of hsz (j := 0) rfl rfl)
  rw [flat_ac] at hl
  have hlen : (l.map toAc).length = l.length := List.length_map ..
  rw [← hlen] at hl
  obtain ⟨a2, len2, cap2, rfl⟩ := okWide_slice Try.underlying39 (hval 1 39 v1 rfl rfl)
  obtain ⟨w, hw, hwl⟩ := (op_slice Try.underlying39 (sz := 1) (by kernel_rfl) (by decide) (by decide +kernel) (op_int Try.underlying3)).arg h1 rfl (weights_of hsz (j := 1) rfl rfl)
  rw [flatMap_one] at hw
  obtain ⟨h', hc⟩ := Go.AM.X.lawY (l.map toAc) w (by rw [hlen]; exact hll.1) hwl.1
  refine (calls_true Go.AM.X.hT Go.AM.X.hmix Go.AM.X.hF Go.AM.X.A2 (by decide) hc (no_tab W) (args := #[_, _]) (VRL.cons hl (VRL.cons hw VRL.nil))).mono fun e W' ⟨he, bel⟩ => ?_
  subst he
  exact ⟨_, rfl, post_true laidOut (by kernel_rfl) rfl (show Try.f6.resultTypes = #[4] by kernel_rfl) Try.underlying4 hW' rfl bel⟩
theorem row_holds : Rows.RouteWaysSaid :=
  OpenClaim.holds_of_wide 6 Try.f6 rfl rfl rfl rfl rfl rfl rfl ⟨rfl, rfl, rfl, rfl, rfl⟩ rfl rfl rfl rfl rfl (by kernel_rfl) Try.func6 (by kernel_rfl)
    (of_decide_eq_true (by kernel_rfl)) (by unfold Func.isWrapper; first | (rw [if_pos (by decide +kernel)]; kernel_rfl) | (rw [if_neg (by decide +kernel)]; exact ⟨rfl, rfl⟩))
    (fun os started H enc _ => lifted os started H enc)
#print axioms row_holds
end Go.Proofs.Ytekoffjfbjonmaa.WaysB
