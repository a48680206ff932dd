/- PrinterCopies: a copy of a printer and of a spooler, made behind any deeds, looks as they do, and what is done to the copies changes nothing of what was copied, for all times, rooms and deeds. Own work. -/
import Derived.Test.YtleefbnanliliaaDoorRows
import Derived.Test.YtleefbnanliliaaDoorTie
import Derived.Test.YtleefbnanliliaaDoorCards
import Derived.Test.YtleefbnanliliaaDoorAmOpen
import Derived.Test.YtleefbnanliliaaDoorPcgU
import Derived.LaidMore
import Derived.Stop.Joined
import Derived.SevenTiedAt
import Derived.ShutString
namespace Go.Proofs.YtleefbnanliliaaDoor.CopiesB
open Go Go.AM Go.AM.Sx Go.RowKit Go.ChangeShapes Go.WideShapes Go.ChangeAt
open Go.ChangeMaps (open_string shut_string)
set_option linter.unusedVariables false

theorem own : ownKnob Tryd.prog.godebug = none := by kernel_rfl
theorem laidOut : laidOutB Tryd.prog = true := by kernel_rfl
theorem mixed : Tryd.prog.follows .mixedOrders = true := by decide +kernel

abbrev laids : List (String × DataW Unit) := [("math/bits.deBruijn32tab", Rows.laid_math_bits_deBruijn32tab), ("math/bits.deBruijn64tab", Rows.laid_math_bits_deBruijn64tab), ("internal/strconv.uint64pow10", Rows.laid_internal_strconv_uint64pow10)]

/-- The door's own heap meets the condition. -/
theorem door_met (os : Os) (args : Array Value) : laidMetH Tryd.prog laids ((World.doorLaid Tryd.prog 24 os).forCall (fun _ _ => 0) ⟨#[], args, []⟩).memory :=
  laidMetH_of_parts3 (fuel := 8) (laidMet_of_run' 8 (by kernel_rfl) (by kernel_rfl)) (by kernel_rfl) (by kernel_rfl)

theorem i64_bounds {x : Int} (h : (Lit.int .i64 x).wf = true) : Go.AM.X.big x := by
  simp only [Lit.wf, IntKind.min, IntKind.max, IntKind.signed, IntKind.bits, Bool.and_eq_true] at h
  have h1 := h.1
  have h2 := h.2
  simp at h1 h2
  unfold Go.AM.X.big
  omega
theorem op_int3 {H : Type} {enc : TypeId × Value → H} {W : World} : Opens enc Tryd.prog W 3 Int (fun n => [.int .i64 n]) (fun n => (Lit.int .i64 n).wf = true) := op_int Tryd.underlying3
abbrev AcT := Int × Int × Int × Int × List Int × Bool × Unit
def toAc (p : AcT) : Go.AM.X.Ac := ⟨p.1, p.2.1, p.2.2.1, p.2.2.2.1, p.2.2.2.2.1, p.2.2.2.2.2.1⟩
def enAc (p : AcT) : List AV := [.int .i64 p.1] ++ ([.int .i64 p.2.1] ++ ([.int .i64 p.2.2.1] ++ ([.int .i64 p.2.2.2.1] ++ ([.lst false 1 p.2.2.2.2.1.length (p.2.2.2.2.1.flatMap fun n => [.int .u8 n])] ++ ([.bool p.2.2.2.2.2.1] ++ [])))))
set_option maxRecDepth 100000 in
theorem op_ac {H : Type} {enc : TypeId × Value → H} {W : World} : ∃ ok, Opens enc Tryd.prog W 53 AcT enAc ok ∧ ∀ p, ok p → Go.AM.X.big p.2.2.1 ∧ p.2.2.2.2.1.length ≤ 1000000000000000 :=
by
  refine ⟨_, op_struct Tryd.underlying53 (N := 6) (by kernel_rfl) (ofs_cons (sz := 1) rfl (by kernel_rfl) (op_int Tryd.underlying3) (ofs_cons (sz := 1) rfl (by kernel_rfl) (op_int Tryd.underlying3) (ofs_cons (sz := 1) rfl (by kernel_rfl) (op_int Tryd.underlying3) (ofs_cons (sz := 1) rfl (by kernel_rfl) (op_int Tryd.underlying3)
    (ofs_cons (sz := 1) rfl (by kernel_rfl) (op_slice Tryd.underlying48 (sz := 1) (by kernel_rfl) (by decide) (by decide +kernel) (op_int Tryd.underlying5)) (ofs_cons (sz := 1) rfl (by kernel_rfl) (op_bool Tryd.underlying4) ofs_nil)))))), ?_⟩
  intro p h
  exact ⟨i64_bounds h.2.2.1, by have := h.2.2.2.2.1.1; omega⟩
theorem en_ac (p : AcT) : enAc p = Go.AM.X.Ac.av (toAc p) := by
  unfold enAc Go.AM.X.Ac.av toAc
  rw [flatMap_one]
  rfl
theorem flat_ac (l : List AcT) : l.flatMap enAc = fl Go.AM.X.Ac.av (l.map toAc) := by
  unfold fl
  rw [List.flatMap_map]
  congr 1
  exact funext en_ac

theorem tab_eq : (Rows.laid_internal_strconv_uint64pow10 : DataW Unit) = Lib.tabData .u64 Lib.pow10Tab := by kernel_rfl
theorem tab_of {W : World} (h : laidMetH Tryd.prog laids W) : Lib.TabIs Tryd.prog W "internal/strconv.uint64pow10" .u64 Lib.pow10Tab := by
  have h1 : laidMet Tryd.prog laids W := h
  have h2 := laid_tail (laid_tail (h1))
  rw [tab_eq] at h2
  exact Lib.tabIs_of_head (g := 0) (t := 119) (e := 113) (n := 20) (by kernel_rfl) (by kernel_rfl) Tryd.underlying119 Tryd.underlying113 (by kernel_rfl) (by kernel_rfl) h2

set_option maxRecDepth 100000 in
theorem lifted (os : Os) (started : os.Started) (H : Type) (enc : TypeId × Value → H) :
    ReturnsInHanded {} Tryd.checked os 9 .any (fun w args => (Rows.printerCopiesSpec.pre enc Tryd.prog Tryd.f9 [] false w args ∧ laidMetH Tryd.prog laids w) ∧ sizedMet enc Tryd.prog Tryd.f9 (OpenSpec.ofChange Rows.printerCopiesSpec) false w args)
      (Rows.printerCopiesSpec.post enc Tryd.prog Tryd.f9 false true false false) := by
  refine returnsInHanded_of_change_and (C := Tryd.checked) (X := fun w _ => laidMetH Tryd.prog laids w) (fun _ _ _ hh h => h.of_heap hh) own started (by kernel_rfl) Tryd.func9
    (ChangeSpec.witness_shaped (enc := enc) (C := Tryd.checked) (os := os) (X := fun w _ => laidMetH Tryd.prog laids w) false (World.doorLaid Tryd.prog 24 os) #[.agg #[.int .i64 0, .int .i64 0, .int .i64 0], .slice none 0 0, .slice none 0 0] 8 rfl (World.shaped_of_RefB (by kernel_rfl) (by kernel_rfl)) (by kernel_rfl) (by kernel_rfl) (by kernel_rfl) (door_met os _)) ?_
  intro W base args ds gs before hval0 hW x1 x2 x3 x4
  have hval : ∀ (j : Nat) t v, Tryd.f9.params[j]? = some t → args[j]? = some v → Value.okWide Tryd.prog W .any base t v := hval0
  have hW' := hW
  obtain ⟨p, q, hA0, hV, rfl, hfz, hnd⟩ := hW
  have hA : DataW.TrodAll enc Tryd.prog W 0 (fun _ => true) true Tryd.f9.params.toList args.toList ds p := hA0
  have hsz : (DataW.weightsEach Tryd.prog (Tryd.f9.params.toList ++ Rows.printerCopiesSpec.plain.varTypes Tryd.prog) (ds ++ gs)).all (· ≤ reachBytes) = true := x2
  rw [Tryd.params9] at hA hval hsz
  obtain ⟨v0, vs0, d0, ds0, p0, q0, hargs, rfl, rfl, h0, r0⟩ := trodAll_cons hA
  obtain ⟨v1, vs1, d1, ds1, p1, q1, rfl, rfl, rfl, h1, r1⟩ := trodAll_cons r0
  obtain ⟨v2, vs2, d2, ds2, p2, q2, rfl, rfl, rfl, h2, r2⟩ := trodAll_cons r1
  obtain ⟨rfl, rfl, rfl⟩ := trodAll_nil r2
  obtain rfl : args = #[v0, v1, v2] := by cases args; simp_all
  obtain ⟨rfl, rfl⟩ := trodVars_none hV
  obtain ⟨cs, rfl, hcs⟩ := okWide_struct Tryd.underlying36 (hval 0 36 v0 rfl rfl)
  obtain ⟨⟨q, ww, r, _⟩, ha, _⟩ := (op_struct (enc := enc) (W := W) Tryd.underlying36 (N := 3) (by kernel_rfl) (ofs_cons (sz := 1) rfl (by kernel_rfl) op_int3 (ofs_cons (sz := 1) rfl (by kernel_rfl) op_int3 (ofs_cons (sz := 1) rfl (by kernel_rfl) op_int3 ofs_nil)))).argS h0 (weights_of hsz (j := 0) rfl rfl)
  obtain ⟨a1, len1, cap1, rfl⟩ := okWide_slice Tryd.underlying47 (hval 1 47 v1 rfl rfl)
  obtain ⟨ok, ho, hok⟩ := op_ac (enc := enc) (W := W)
  obtain ⟨l, hl, hll⟩ := (op_slice Tryd.underlying47 (sz := 6) (by kernel_rfl) (by decide) (by decide +kernel) ho).arg h1 rfl (weights_of hsz (j := 1) rfl rfl)
  rw [flat_ac] at hl
  have hlen : (l.map toAc).length = l.length := List.length_map ..
  rw [← hlen] at hl
  obtain ⟨a2, len2, cap2, rfl⟩ := okWide_slice Tryd.underlying47 (hval 2 47 v2 rfl rfl)
  obtain ⟨l2, hl2, hll2⟩ := (op_slice Tryd.underlying47 (sz := 6) (by kernel_rfl) (by decide) (by decide +kernel) ho).arg h2 rfl (weights_of hsz (j := 2) rfl rfl)
  rw [flat_ac] at hl2
  have hlen2 : (l2.map toAc).length = l2.length := List.length_map ..
  rw [← hlen2] at hl2
  obtain ⟨h', hc⟩ := Go.AM.X.lawC q ww r (l.map toAc) (l2.map toAc) (fun x hx => by
    obtain ⟨p, hp, rfl⟩ := List.mem_map.1 hx
    exact hok p (hll.2 p hp)) (fun x hx => by
    obtain ⟨p, hp, rfl⟩ := List.mem_map.1 hx
    exact hok p (hll2.2 p hp)) (by have := hll.1; omega) (by have := hll2.1; omega)
  refine (calls_true Go.AM.X.hT Go.AM.X.hmix Go.AM.X.hF Go.AM.X.Ap2 (by decide) hc (tables_of (tab_of x3)) (args := #[_, _, _]) (VRL.cons ha (VRL.cons hl (VRL.cons hl2 VRL.nil)))).mono fun e W' ⟨he, bel⟩ => ?_
  subst he
  exact ⟨_, rfl, post_true laidOut (by kernel_rfl) rfl (show Tryd.f9.resultTypes = #[4] by kernel_rfl) Tryd.underlying4 hW' rfl bel⟩

theorem row_holds : Rows.PrinterCopiesSaid :=
  OpenClaim.holds_of_wide 9 Tryd.f9 rfl rfl rfl rfl rfl rfl rfl ⟨rfl, rfl, rfl, rfl, rfl⟩ rfl rfl rfl rfl rfl (by kernel_rfl) Tryd.func9 (by kernel_rfl)
    (of_decide_eq_true (by kernel_rfl)) (by unfold Func.isWrapper; first | (rw [if_pos (by decide +kernel)]; kernel_rfl) | (rw [if_neg (by decide +kernel)]; exact ⟨rfl, rfl⟩))
    (fun os started H enc _ => lifted os started H enc)

theorem card_holds : Rows.PrinterCopiesCardSaid :=
  Claim7.holds_tied_plain_at .later [] [.data, .data, .data] true (true, "83339155388d066d643bae6b6b44418ff9a8bfa94a217aac8a9da43fca51048f") false
    row_holds (fun _ h => by cases h) (by kernel_rfl) (fun _ h => by cases h) printerCopies_row_tie rfl ⟨rfl, rfl⟩ (by kernel_rfl) rfl
    (fun f fn hf hfn => by
      obtain rfl : f = 9 := Option.some.inj ((show Tryd.prog.funcNamed "tithing/tithinglaw13.PrinterCopies" = some 9 by kernel_rfl).symm.trans hf) |>.symm
      obtain rfl : fn = Tryd.f9 := (Option.some.inj (Tryd.func9.symm.trans hfn)).symm
      exact ⟨by kernel_rfl, fun j t ht => by
        rw [Tryd.params9] at ht
        have hm : t ∈ [36, 47, 47] := by simpa using Array.mem_of_getElem? ht
        have hall : ([36, 47, 47].all fun u => !Tryd.prog.wantsStandIn u) = true := by kernel_rfl
        exact (show Tryd.prog.wantsStandIn t = false by simpa using List.all_eq_true.1 hall t hm)⟩)
    (by kernel_rfl)
#print axioms card_holds
end Go.Proofs.YtleefbnanliliaaDoor.CopiesB
