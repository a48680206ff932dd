/- ProbeSettles: stations with empty rows all settle at the first addresses, in all ranges and for all numbers of stations. Own work. -/
import Derived.Test.YtghkgkjbdfnimaaRows
import Derived.Test.YtghkgkjbdfnimaaAmOpen
import Derived.Test.YtghkgkjbdfnimaaPbgL
import Derived.ShutString
import Derived.ChangeOld
import Derived.OpenShut
namespace Go.Proofs.Ytghkgkjbdfnimaa.SettlesB
open Go Go.AM Go.AM.Sx Go.RowKit Go.ChangeShapes Go.WideShapes Go.ChangeAt
open Go.ChangeMaps (open_string shut_string)
set_option linter.unusedVariables false
theorem own : ownKnob Try.prog.godebug = none := by kernel_rfl
theorem laidOut : laidOutB Try.prog = true := by kernel_rfl
theorem mixed : Try.prog.follows .mixedOrders = true := by decide +kernel
theorem flat1 {α : Type} (f : α → AV) (l : List α) : l.flatMap (fun n => [f n]) = l.map f := by
  induction l with
  | nil => rfl
  | cons x l ih => rw [List.flatMap_cons, ih]; rfl
abbrev GdT := Int × Int × List Int × Unit
def enGd (p : GdT) : List AV := [.int .i64 p.1] ++ ([.int .i64 p.2.1] ++ ([.lst false 1 p.2.2.1.length (p.2.2.1.flatMap fun n => [.int .i64 n])] ++ []))
set_option maxRecDepth 100000 in
theorem op_gd {H : Type} {enc : TypeId × Value → H} {W : World} : ∃ ok, Opens enc Try.prog W 24 GdT enGd ok :=
  ⟨_, op_struct Try.underlying24 (N := 3) (by kernel_rfl) (ofs_cons (sz := 1) rfl (by kernel_rfl) (op_int Try.underlying3) (ofs_cons (sz := 1) rfl (by kernel_rfl) (op_int Try.underlying3) (ofs_cons (sz := 1) rfl (by kernel_rfl) (op_slice Try.underlying22 (sz := 1) (by kernel_rfl) (by decide) (by decide +kernel) (op_int Try.underlying3)) ofs_nil)))⟩
theorem en_gd (p : GdT) : AV.agg (enGd p) = .agg [.int .i64 p.1, .int .i64 p.2.1, Go.AM.X.rowV p.2.2.1] := by
  unfold enGd Go.AM.X.rowV
  rw [flat1]; rfl
theorem no_tab (W : World) : ∀ k arr, tablesOf Try.prog k = some arr → fzAll W k = some arr := by
  intro k arr h
  have hg : Try.prog.globalNamed "internal/strconv.uint64pow10" = none := by kernel_rfl
  unfold tablesOf at h
  rw [hg, if_neg (by simp)] at h
  cases h
theorem u8_bounds {x : Int} (h : (Lit.int .u8 x).wf = true) : 0 ≤ x ∧ x ≤ 255 := by
  simp only [Lit.wf, IntKind.min, IntKind.max, IntKind.signed, IntKind.bits, Bool.and_eq_true] at h
  have h1 := h.1
  have h2 := h.2
  simp at h1 h2
  omega
theorem i64_bounds {x : Int} (h : (Lit.int .i64 x).wf = true) : -9223372036854775808 ≤ x ∧ x ≤ 9223372036854775807 := by
  simp only [Lit.wf, IntKind.min, IntKind.max, IntKind.signed, IntKind.bits, Bool.and_eq_true] at h
  have h1 := h.1
  have h2 := h.2
  simp at h1 h2
  omega
set_option maxRecDepth 100000 in
theorem lifted (os : Os) (started : os.Started) (H : Type) (enc : TypeId × Value → H) :
    ReturnsInHanded {} Try.checked os 3 .any (Rows.probeSettlesSpec.pre6 enc Try.prog Try.f3 Rows.probeSettlesRow.domain false) (Rows.probeSettlesSpec.post enc Try.prog Try.f3 false true false false) := by
  refine returnsInHanded_of_change_sized (C := Try.checked) own started (by kernel_rfl) Try.func3
    (ChangeSpec.witness6 (enc := enc) (C := Try.checked) false ⟨#[], #[.agg #[.int .i64 0, .int .i64 0, .slice none 0 0], .int .u8 0], []⟩ 8 (by kernel_rfl) (by kernel_rfl) (by kernel_rfl) (by kernel_rfl)) ?_
  intro W base args ds gs before hval0 hW hcnd hsz0 _
  have hval : ∀ (j : Nat) t v, Try.f3.params[j]? = some t → args[j]? = some v → Value.okWide Try.prog W .any base t v := hval0
  have hsz : (DataW.weightsEach Try.prog (Try.f3.params.toList ++ Rows.probeSettlesSpec.plain.varTypes Try.prog) (ds ++ gs)).all (· ≤ reachBytes) = true := hsz0
  have hW' := hW
  obtain ⟨p, q, hA0, hV, rfl, hfz, hnd⟩ := hW
  have hA : DataW.TrodAll enc Try.prog W 0 (fun _ => true) true Try.f3.params.toList args.toList ds p := hA0
  rw [Try.params3] at hA hval hsz
  obtain ⟨v0, vs0, d0, ds0, p0, q0, hargs, rfl, rfl, h0, r0⟩ := trodAll_cons hA
  obtain ⟨v1, vs1, d1, ds1, p1, q1, rfl, rfl, rfl, h1, r1⟩ := trodAll_cons r0
  obtain ⟨rfl, rfl, rfl⟩ := trodAll_nil r1
  obtain rfl : args = #[v0, v1] := by cases args; simp_all
  obtain ⟨rfl, rfl⟩ := trodVars_none hV
  obtain ⟨cs, rfl, hcs⟩ := okWide_struct Try.underlying24 (hval 0 24 v0 rfl rfl)
  obtain ⟨okg, hog⟩ := op_gd (enc := enc) (W := W)
  obtain ⟨gd, ha, _⟩ := hog.argS h0 (weights_of hsz (j := 0) rfl rfl)
  rw [en_gd] at ha
  obtain ⟨n0, rfl⟩ := okWide_int Try.underlying5 (hval 1 5 v1 rfl rfl)
  obtain ⟨nn, hn, hnl⟩ := (op_int Try.underlying5).arg h1 rfl (weights_of hsz (j := 1) rfl rfl)
  obtain ⟨h', hc⟩ := Go.AM.X.lawSet gd.1 gd.2.1 nn gd.2.2.1 (u8_bounds hnl)
  refine (calls_true Go.AM.X.hT Go.AM.X.hmix Go.AM.X.hF Go.AM.X.Ap (by decide) hc (no_tab W) (args := #[_, _]) (VRL.cons ha (VRL.cons hn VRL.nil))).mono fun e W' ⟨he, bel⟩ => ?_
  subst he
  exact ⟨_, rfl, post_true laidOut (by kernel_rfl) rfl (show Try.f3.resultTypes = #[4] by kernel_rfl) Try.underlying4 hW' rfl bel⟩
theorem row_holds : Rows.ProbeSettlesSaid :=
  OpenClaim.holds_of_wide 3 Try.f3 rfl rfl rfl rfl rfl rfl rfl ⟨rfl, rfl, rfl, rfl, rfl⟩ rfl rfl rfl rfl rfl (by kernel_rfl) Try.func3 (by kernel_rfl)
    (of_decide_eq_true (by kernel_rfl)) (by unfold Func.isWrapper; first | (rw [if_pos (by decide +kernel)]; kernel_rfl) | (rw [if_neg (by decide +kernel)]; exact ⟨rfl, rfl⟩))
    (fun os started H enc _ => lifted os started H enc)
#print axioms row_holds
end Go.Proofs.Ytghkgkjbdfnimaa.SettlesB
namespace Go.Proofs.Ytghkgkjbdfnimaa.OwnB
open Go Go.AM Go.AM.Sx Go.RowKit Go.ChangeShapes Go.WideShapes Go.ChangeAt
open Go.ChangeMaps (open_string shut_string)
set_option linter.unusedVariables false
theorem own : ownKnob Try.prog.godebug = none := by kernel_rfl
theorem laidOut : laidOutB Try.prog = true := by kernel_rfl
theorem mixed : Try.prog.follows .mixedOrders = true := by decide +kernel
theorem flat1 {α : Type} (f : α → AV) (l : List α) : l.flatMap (fun n => [f n]) = l.map f := by
  induction l with
  | nil => rfl
  | cons x l ih => rw [List.flatMap_cons, ih]; rfl
abbrev GdT := Int × Int × List Int × Unit
def enGd (p : GdT) : List AV := [.int .i64 p.1] ++ ([.int .i64 p.2.1] ++ ([.lst false 1 p.2.2.1.length (p.2.2.1.flatMap fun n => [.int .i64 n])] ++ []))
set_option maxRecDepth 100000 in
theorem op_gd {H : Type} {enc : TypeId × Value → H} {W : World} : ∃ ok, Opens enc Try.prog W 24 GdT enGd ok :=
  ⟨_, op_struct Try.underlying24 (N := 3) (by kernel_rfl) (ofs_cons (sz := 1) rfl (by kernel_rfl) (op_int Try.underlying3) (ofs_cons (sz := 1) rfl (by kernel_rfl) (op_int Try.underlying3) (ofs_cons (sz := 1) rfl (by kernel_rfl) (op_slice Try.underlying22 (sz := 1) (by kernel_rfl) (by decide) (by decide +kernel) (op_int Try.underlying3)) ofs_nil)))⟩
theorem en_gd (p : GdT) : AV.agg (enGd p) = .agg [.int .i64 p.1, .int .i64 p.2.1, Go.AM.X.rowV p.2.2.1] := by
  unfold enGd Go.AM.X.rowV
  rw [flat1]; rfl
theorem no_tab (W : World) : ∀ k arr, tablesOf Try.prog k = some arr → fzAll W k = some arr := by
  intro k arr h
  have hg : Try.prog.globalNamed "internal/strconv.uint64pow10" = none := by kernel_rfl
  unfold tablesOf at h
  rw [hg, if_neg (by simp)] at h
  cases h
theorem u8_bounds {x : Int} (h : (Lit.int .u8 x).wf = true) : 0 ≤ x ∧ x ≤ 255 := by
  simp only [Lit.wf, IntKind.min, IntKind.max, IntKind.signed, IntKind.bits, Bool.and_eq_true] at h
  have h1 := h.1
  have h2 := h.2
  simp at h1 h2
  omega
theorem i64_bounds {x : Int} (h : (Lit.int .i64 x).wf = true) : -9223372036854775808 ≤ x ∧ x ≤ 9223372036854775807 := by
  simp only [Lit.wf, IntKind.min, IntKind.max, IntKind.signed, IntKind.bits, Bool.and_eq_true] at h
  have h1 := h.1
  have h2 := h.2
  simp at h1 h2
  omega
abbrev AcT := Int × Int × (Int × Int × Unit) × List Int × Unit
def toAc (p : AcT) : Go.AM.X.Ac := ⟨p.1, p.2.1, p.2.2.1.1, p.2.2.1.2.1, p.2.2.2.1⟩
def enAd (p : Int × Int × Unit) : List AV := [.int .i64 p.1] ++ ([.int .i64 p.2.1] ++ [])
def enAc (p : AcT) : List AV := [.int .i64 p.1] ++ ([.int .i64 p.2.1] ++ (enAd p.2.2.1 ++ ([.lst false 1 p.2.2.2.1.length (p.2.2.2.1.flatMap fun n => [.int .i64 n])] ++ [])))
set_option maxRecDepth 100000 in
theorem op_ac {H : Type} {enc : TypeId × Value → H} {W : World} : ∃ ok, Opens enc Try.prog W 42 AcT enAc ok :=
  ⟨_, op_struct Try.underlying42 (N := 5) (by kernel_rfl) (ofs_cons (sz := 1) rfl (by kernel_rfl) (op_int Try.underlying3) (ofs_cons (sz := 1) rfl (by kernel_rfl) (op_int Try.underlying3) (ofs_cons (sz := 2) rfl (by kernel_rfl) (op_struct Try.underlying35 (N := 2) (by kernel_rfl) (ofs_cons (sz := 1) rfl (by kernel_rfl) (op_int Try.underlying3) (ofs_cons (sz := 1) rfl (by kernel_rfl) (op_int Try.underlying3) ofs_nil)))
    (ofs_cons (sz := 1) rfl (by kernel_rfl) (op_slice Try.underlying22 (sz := 1) (by kernel_rfl) (by decide) (by decide +kernel) (op_int Try.underlying3)) ofs_nil))))⟩
theorem en_ac (p : AcT) : enAc p = Go.AM.X.Ac.av (toAc p) := by
  unfold enAc enAd Go.AM.X.Ac.av toAc Go.AM.X.rowV
  rw [flat1]; rfl
theorem flat_ac (l : List AcT) : l.flatMap enAc = fl Go.AM.X.Ac.av (l.map toAc) := by
  unfold fl
  rw [List.flatMap_map]
  congr 1
  exact funext en_ac
set_option maxRecDepth 100000 in
theorem lifted (os : Os) (started : os.Started) (H : Type) (enc : TypeId × Value → H) :
    ReturnsInHanded {} Try.checked os 4 .any (Rows.probeOwnSpec.pre6 enc Try.prog Try.f4 Rows.probeOwnRow.domain false) (Rows.probeOwnSpec.post enc Try.prog Try.f4 false true false false) := by
  refine returnsInHanded_of_change_sized (C := Try.checked) own started (by kernel_rfl) Try.func4
    (ChangeSpec.witness6 (enc := enc) (C := Try.checked) false ⟨#[], #[.agg #[.int .i64 0, .int .i64 0, .slice none 0 0], .slice none 0 0], []⟩ 8 (by kernel_rfl) (by kernel_rfl) (by kernel_rfl) (by kernel_rfl)) ?_
  intro W base args ds gs before hval0 hW hcnd hsz0 _
  have hval : ∀ (j : Nat) t v, Try.f4.params[j]? = some t → args[j]? = some v → Value.okWide Try.prog W .any base t v := hval0
  have hsz : (DataW.weightsEach Try.prog (Try.f4.params.toList ++ Rows.probeOwnSpec.plain.varTypes Try.prog) (ds ++ gs)).all (· ≤ reachBytes) = true := hsz0
  have hW' := hW
  obtain ⟨p, q, hA0, hV, rfl, hfz, hnd⟩ := hW
  have hA : DataW.TrodAll enc Try.prog W 0 (fun _ => true) true Try.f4.params.toList args.toList ds p := hA0
  rw [Try.params4] at hA hval hsz
  obtain ⟨v0, vs0, d0, ds0, p0, q0, hargs, rfl, rfl, h0, r0⟩ := trodAll_cons hA
  obtain ⟨v1, vs1, d1, ds1, p1, q1, rfl, rfl, rfl, h1, r1⟩ := trodAll_cons r0
  obtain ⟨rfl, rfl, rfl⟩ := trodAll_nil r1
  obtain rfl : args = #[v0, v1] := by cases args; simp_all
  obtain ⟨rfl, rfl⟩ := trodVars_none hV
  obtain ⟨cs, rfl, hcs⟩ := okWide_struct Try.underlying24 (hval 0 24 v0 rfl rfl)
  obtain ⟨okg, hog⟩ := op_gd (enc := enc) (W := W)
  obtain ⟨gd, ha, _⟩ := hog.argS h0 (weights_of hsz (j := 0) rfl rfl)
  rw [en_gd] at ha
  obtain ⟨a1, len1, cap1, rfl⟩ := okWide_slice Try.underlying39 (hval 1 39 v1 rfl rfl)
  obtain ⟨oka, hoa⟩ := op_ac (enc := enc) (W := W)
  obtain ⟨l, hl, hll⟩ := (op_slice Try.underlying39 (sz := 5) (by kernel_rfl) (by decide) (by decide +kernel) hoa).arg h1 rfl (weights_of hsz (j := 1) rfl rfl)
  rw [flat_ac] at hl
  have hlen : (l.map toAc).length = l.length := List.length_map ..
  rw [← hlen] at hl
  obtain ⟨h', hc⟩ := Go.AM.X.lawOwn gd.1 gd.2.1 gd.2.2.1 (l.map toAc) (by have := hll.1; omega)
  refine (calls_true Go.AM.X.hT Go.AM.X.hmix Go.AM.X.hF Go.AM.X.Ap (by decide) hc (no_tab W) (args := #[_, _]) (VRL.cons ha (VRL.cons hl VRL.nil))).mono fun e W' ⟨he, bel⟩ => ?_
  subst he
  exact ⟨_, rfl, post_true laidOut (by kernel_rfl) rfl (show Try.f4.resultTypes = #[4] by kernel_rfl) Try.underlying4 hW' rfl bel⟩
theorem row_holds : Rows.ProbeOwnSaid :=
  OpenClaim.holds_of_wide 4 Try.f4 rfl rfl rfl rfl rfl rfl rfl ⟨rfl, rfl, rfl, rfl, rfl⟩ rfl rfl rfl rfl rfl (by kernel_rfl) Try.func4 (by kernel_rfl)
    (of_decide_eq_true (by kernel_rfl)) (by unfold Func.isWrapper; first | (rw [if_pos (by decide +kernel)]; kernel_rfl) | (rw [if_neg (by decide +kernel)]; exact ⟨rfl, rfl⟩))
    (fun os started H enc _ => lifted os started H enc)
#print axioms row_holds
end Go.Proofs.Ytghkgkjbdfnimaa.OwnB
namespace Go.Proofs.Ytghkgkjbdfnimaa.AsksB
open Go Go.AM Go.AM.Sx Go.RowKit Go.ChangeShapes Go.WideShapes Go.ChangeAt
open Go.ChangeMaps (open_string shut_string)
set_option linter.unusedVariables false
theorem own : ownKnob Try.prog.godebug = none := by kernel_rfl
theorem laidOut : laidOutB Try.prog = true := by kernel_rfl
theorem mixed : Try.prog.follows .mixedOrders = true := by decide +kernel
theorem flat1 {α : Type} (f : α → AV) (l : List α) : l.flatMap (fun n => [f n]) = l.map f := by
  induction l with
  | nil => rfl
  | cons x l ih => rw [List.flatMap_cons, ih]; rfl
abbrev GdT := Int × Int × List Int × Unit
def enGd (p : GdT) : List AV := [.int .i64 p.1] ++ ([.int .i64 p.2.1] ++ ([.lst false 1 p.2.2.1.length (p.2.2.1.flatMap fun n => [.int .i64 n])] ++ []))
set_option maxRecDepth 100000 in
theorem op_gd {H : Type} {enc : TypeId × Value → H} {W : World} : ∃ ok, Opens enc Try.prog W 24 GdT enGd ok :=
  ⟨_, op_struct Try.underlying24 (N := 3) (by kernel_rfl) (ofs_cons (sz := 1) rfl (by kernel_rfl) (op_int Try.underlying3) (ofs_cons (sz := 1) rfl (by kernel_rfl) (op_int Try.underlying3) (ofs_cons (sz := 1) rfl (by kernel_rfl) (op_slice Try.underlying22 (sz := 1) (by kernel_rfl) (by decide) (by decide +kernel) (op_int Try.underlying3)) ofs_nil)))⟩
theorem en_gd (p : GdT) : AV.agg (enGd p) = .agg [.int .i64 p.1, .int .i64 p.2.1, Go.AM.X.rowV p.2.2.1] := by
  unfold enGd Go.AM.X.rowV
  rw [flat1]; rfl
theorem no_tab (W : World) : ∀ k arr, tablesOf Try.prog k = some arr → fzAll W k = some arr := by
  intro k arr h
  have hg : Try.prog.globalNamed "internal/strconv.uint64pow10" = none := by kernel_rfl
  unfold tablesOf at h
  rw [hg, if_neg (by simp)] at h
  cases h
theorem u8_bounds {x : Int} (h : (Lit.int .u8 x).wf = true) : 0 ≤ x ∧ x ≤ 255 := by
  simp only [Lit.wf, IntKind.min, IntKind.max, IntKind.signed, IntKind.bits, Bool.and_eq_true] at h
  have h1 := h.1
  have h2 := h.2
  simp at h1 h2
  omega
theorem i64_bounds {x : Int} (h : (Lit.int .i64 x).wf = true) : -9223372036854775808 ≤ x ∧ x ≤ 9223372036854775807 := by
  simp only [Lit.wf, IntKind.min, IntKind.max, IntKind.signed, IntKind.bits, Bool.and_eq_true] at h
  have h1 := h.1
  have h2 := h.2
  simp at h1 h2
  omega
theorem okWide_array {P : Program} {w : World} {r : Reach} {base n e : Nat} {t : TypeId} {v : Value} (ht : P.underlying t = some (.array n e)) (h : Value.okWide P w r base t v) : ∃ cs, v = .agg cs ∧ cs.size = P.cellsOf t := by
  simp only [Value.okWide, ht] at h
  obtain ⟨cs, h1, h2, _⟩ := h
  exact ⟨cs, h1, h2⟩
set_option maxRecDepth 100000 in
theorem op_two {H : Type} {enc : TypeId × Value → H} {W : World} : Opens enc Try.prog W 47 (Int × Int) (fun p => [.int .u8 p.1, .int .u8 p.2]) (fun p => (Lit.int .u8 p.1).wf = true ∧ (Lit.int .u8 p.2).wf = true) := by
  intro fuel cs d ps h hw
  have hc5 : Try.prog.cellsOf 5 = 1 := by kernel_rfl
  have hc47 : Try.prog.cellsOf 47 = 2 := by kernel_rfl
  obtain ⟨xs, m, _, _, hl, hxl, hf⟩ := DataW.trod_array Try.underlying47 h
  rw [hc47] at hl
  match cs, hl with
  | [a, b], _ =>
    match xs, hxl with
    | [x, y], _ =>
      have h0 := hf 0 (by decide)
      have h1 := hf 1 (by decide)
      rw [hc5] at h0 h1
      obtain ⟨n0, e0, _, w0⟩ := DataW.trod_int Try.underlying5 h0
      obtain ⟨n1, e1, _, w1⟩ := DataW.trod_int Try.underlying5 h1
      simp at e0 e1
      subst e0
      subst e1
      exact ⟨(n0, n1), VRL.cons (VR.mk_int _ _) (VRL.cons (VR.mk_int _ _) VRL.nil), w0, w1⟩
theorem op_ints {H : Type} {enc : TypeId × Value → H} {W : World} : Opens enc Try.prog W 22 (List Int) (fun l => [.lst false 1 l.length (l.flatMap fun n => [.int .i64 n])]) (fun l => l.length * 8 ≤ 140737488355328 ∧ ∀ x ∈ l, (Lit.int .i64 x).wf = true) := by
  intro fuel cs d ps h hw
  obtain ⟨l, h1, h2⟩ := op_slice Try.underlying22 (sz := 1) (by kernel_rfl) (by decide) (by decide +kernel) (op_int Try.underlying3) fuel cs d ps h hw
  refine ⟨l, h1, ?_, h2.2⟩
  have hb : Try.prog.bytesOf 3 = 8 := by kernel_rfl
  rcases Go.Deep.open_slice Try.underlying22 h with ⟨rfl, hx⟩ | ⟨a, len, cap, m, n, D, Pl, rfl, hba, hl, hm, hmm, hx, hel⟩
  · obtain ⟨y, r, he, hy, _⟩ := h1.cons_inv
    cases he
    rw [VR] at hy
    obtain ⟨a, c, he2, _⟩ := hy
    injection he2 with e1 e2 e3
    omega
  · simp only [if_true] at hmm
    subst hmm
    cases hx
    have := hw ((len + (m - len)) * Try.prog.bytesOf 3) (by simp [DataW.weights, Try.underlying22])
    rw [hb] at this
    obtain ⟨y, r, he, hy, _⟩ := h1.cons_inv
    cases he
    rw [VR] at hy
    obtain ⟨a', c, he2, _⟩ := hy
    injection he2 with e1 e2 e3
    have h3 : reachBytes < 140737488355328 := by decide
    omega
theorem flat_rows (l : List (List Int)) : l.flatMap (fun r => [AV.lst false 1 r.length (r.flatMap fun n => [.int .i64 n])]) = fl Go.AM.X.rE l := by
  unfold fl
  congr 1
  funext r
  unfold Go.AM.X.rE Go.AM.X.rowV
  rw [flat1]
set_option maxRecDepth 100000 in
theorem lifted (os : Os) (started : os.Started) (H : Type) (enc : TypeId × Value → H) :
    ReturnsInHanded {} Try.checked os 5 .any (Rows.probeAsksSpec.pre6 enc Try.prog Try.f5 Rows.probeAsksRow.domain false) (Rows.probeAsksSpec.post enc Try.prog Try.f5 false true false false) := by
  refine returnsInHanded_of_change_sized (C := Try.checked) own started (by kernel_rfl) Try.func5
    (ChangeSpec.witness6 (enc := enc) (C := Try.checked) false ⟨#[], #[.agg #[.int .i64 0, .int .i64 0, .slice none 0 0], .slice none 0 0, .agg #[.int .u8 0, .int .u8 0]], []⟩ 8 (by kernel_rfl) (by kernel_rfl) (by kernel_rfl) (by kernel_rfl)) ?_
  intro W base args ds gs before hval0 hW hcnd hsz0 _
  have hval : ∀ (j : Nat) t v, Try.f5.params[j]? = some t → args[j]? = some v → Value.okWide Try.prog W .any base t v := hval0
  have hsz : (DataW.weightsEach Try.prog (Try.f5.params.toList ++ Rows.probeAsksSpec.plain.varTypes Try.prog) (ds ++ gs)).all (· ≤ reachBytes) = true := hsz0
  have hW' := hW
  obtain ⟨p, q, hA0, hV, rfl, hfz, hnd⟩ := hW
  have hA : DataW.TrodAll enc Try.prog W 0 (fun _ => true) true Try.f5.params.toList args.toList ds p := hA0
  rw [Try.params5] at hA hval hsz
  obtain ⟨v0, vs0, d0, ds0, p0, q0, hargs, rfl, rfl, h0, r0⟩ := trodAll_cons hA
  obtain ⟨v1, vs1, d1, ds1, p1, q1, rfl, rfl, rfl, h1, r1⟩ := trodAll_cons r0
  obtain ⟨v2, vs2, d2, ds2, p2, q2, rfl, rfl, rfl, h2, r2⟩ := trodAll_cons r1
  obtain ⟨rfl, rfl, rfl⟩ := trodAll_nil r2
  obtain rfl : args = #[v0, v1, v2] := by cases args; simp_all
  obtain ⟨rfl, rfl⟩ := trodVars_none hV
  obtain ⟨cs, rfl, hcs⟩ := okWide_struct Try.underlying24 (hval 0 24 v0 rfl rfl)
  obtain ⟨okg, hog⟩ := op_gd (enc := enc) (W := W)
  obtain ⟨gd, ha, _⟩ := hog.argS h0 (weights_of hsz (j := 0) rfl rfl)
  rw [en_gd] at ha
  obtain ⟨a1, len1, cap1, rfl⟩ := okWide_slice Try.underlying46 (hval 1 46 v1 rfl rfl)
  obtain ⟨l, hl, hll⟩ := (op_slice Try.underlying46 (sz := 1) (by kernel_rfl) (by decide) (by decide +kernel) op_ints).arg h1 rfl (weights_of hsz (j := 1) rfl rfl)
  rw [flat_rows] at hl
  obtain ⟨cs2, rfl, hcs2⟩ := okWide_array Try.underlying47 (hval 2 47 v2 rfl rfl)
  obtain ⟨⟨w0, w1⟩, hw, hw0, hw1⟩ := op_two.argS h2 (weights_of hsz (j := 2) rfl rfl)
  obtain ⟨h', hc⟩ := Go.AM.X.lawAsk gd.1 gd.2.1 gd.2.2.1 l w0 w1 (by have := hll.1; omega) (fun r hr => ⟨fun y hy => i64_bounds ((hll.2 r hr).2 y hy), by have := (hll.2 r hr).1; omega⟩) (u8_bounds hw0) (u8_bounds hw1)
  refine (calls_true Go.AM.X.hT Go.AM.X.hmix Go.AM.X.hF Go.AM.X.Ap (by decide) hc (no_tab W) (args := #[_, _, _]) (VRL.cons ha (VRL.cons hl (VRL.cons hw VRL.nil)))).mono fun e W' ⟨he, bel⟩ => ?_
  subst he
  exact ⟨_, rfl, post_true laidOut (by kernel_rfl) rfl (show Try.f5.resultTypes = #[4] by kernel_rfl) Try.underlying4 hW' rfl bel⟩
theorem row_holds : Rows.ProbeAsksSaid :=
  OpenClaim.holds_of_wide 5 Try.f5 rfl rfl rfl rfl rfl rfl rfl ⟨rfl, rfl, rfl, rfl, rfl⟩ rfl rfl rfl rfl rfl (by kernel_rfl) Try.func5 (by kernel_rfl)
    (of_decide_eq_true (by kernel_rfl)) (by unfold Func.isWrapper; first | (rw [if_pos (by decide +kernel)]; kernel_rfl) | (rw [if_neg (by decide +kernel)]; exact ⟨rfl, rfl⟩))
    (fun os started H enc _ => lifted os started H enc)
#print axioms row_holds
end Go.Proofs.Ytghkgkjbdfnimaa.AsksB
