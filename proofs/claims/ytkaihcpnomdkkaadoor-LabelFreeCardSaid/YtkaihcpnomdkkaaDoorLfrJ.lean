/- LabelFree: the chain, and the law. Own work. -/
import Derived.Test.YtkaihcpnomdkkaaDoorLfrI
import Derived.Test.YtkaihcpnomdkkaaDoorShelf
namespace Go.AM.X.G
open Go Go.AM Go.Proofs Go.AM.Sx Go.AM.X
set_option maxHeartbeats 1600000
set_option maxRecDepth 100000
set_option linter.unusedSimpArgs false
set_option linter.unusedVariables false
theorem F9 : F 9 = some { body := (Tryd.f9.body.getD .skip), results := Tryd.f9.results.toList, rf := false } := by kernel_rfl
theorem frz_row {k : Nat} {h : AH} : frzMap (frzF false (k + 1) h) setL = some setL := by
  unfold setL
  exact frzMap_map (al := false) (k := k + 1) (h := h) (f := fun k : Nat => AV.bool (k == 0 || k == 58)) (l := List.range 256) (fun _ => rfl)
noncomputable def Yb1 := addI N1 9 (pureG g9)
theorem YbA1 : IAgree Tryd.prog Yb1 := by
  refine pure_agree hT hmix hF E1 (by decide) _ F9 fun args v hg _ => ?_
  unfold g9 at hg
  split at hg
  · cases hg
    obtain ⟨h', hc⟩ := isT_some awake9
    exact ⟨[], 300, 3, h', .bool true, .bool true, WkL.nil, hc, by simp [frzF, AV.flat], Wk.refl _⟩
  · cases hg
noncomputable def Yb2 := addI Yb1 74 (pureG g74)
theorem YbA2 : IAgree Tryd.prog Yb2 := by
  refine agree2 hT hmix hF YbA1 (by decide) F74 fun x y r hs => ?_
  split at hs
  · rename_i hc; obtain ⟨rfl, hc⟩ := hc; cases hs; exact fin (run74 rfl rfl rfl rfl rfl rfl y 0 hc) (fun h => by simp [frzF, AV.flat])
  · cases hs
theorem set76T : isSet (call F Yb2 T 60 76 [.str [0, 58]] e0) setL = true := by kernel_rfl
noncomputable def Yb3 := addI Yb2 76 (pureG g76)
theorem YbA3 : IAgree Tryd.prog Yb3 := by
  refine pure_agree hT hmix hF YbA2 (by decide) _ F76 fun args v hg _ => ?_
  unfold g76 at hg
  split at hg
  · split at hg
    · rename_i hs
      subst hs
      cases hg
      obtain ⟨h', hc⟩ := isSet_some set76T
      refine ⟨_, 60, 4, h', _, _, WkL.cons (Wk.refl _) WkL.nil, hc, ?_, Wk.refl _⟩
      show (frzMap (frzF false 3 h') [.agg setL, .bool true]).map AV.tup = _
      have h1 : frzF false 3 h' (.agg setL) = some (.agg setL) := by
        show (frzMap (frzF false 2 h') setL).map AV.agg = _
        rw [frz_row]; rfl
      rw [frzMap_cons (f := frzF false 3 h') h1 (frzMap_cons (f := frzF false 3 h') (b := .bool true) rfl frzMap_nil)]
      rfl
    · cases hg
  · cases hg
noncomputable def Yb4 := addI Yb3 50 (pureG g50)
theorem YbA4 : IAgree Tryd.prog Yb4 := by
  refine agree2 hT hmix hF YbA3 (by decide) F50 fun x y r hs => ?_
  split at hs
  · rename_i hc; obtain ⟨rfl, hc⟩ := hc; cases hs; exact fin (run50 rfl rfl rfl rfl rfl x 0 hc) (fun h => by simp [frzF, AV.flat])
  · cases hs
noncomputable def Yb5 := addI Yb4 28 (pureG g28)
theorem YbA5 : IAgree Tryd.prog Yb5 := agree2 hT hmix hF YbA4 (by decide) F28 fun x y r hs => by
  split at hs
  · rename_i hc; cases hs; exact fin (run28 rfl rfl  x y 0 hc) (fun h => by simp [frzF, frzMap, AV.flat])
  · cases hs
noncomputable def Yb6 := addI Yb5 29 (pureG g29)
theorem YbA6 : IAgree Tryd.prog Yb6 := by
  refine pure_agree hT hmix hF YbA5 (by decide) _ F29 fun args v hg _ => ?_
  unfold g29 at hg
  split at hg
  · split at hg
    · rename_i hc
      cases hg
      obtain ⟨h', hr⟩ := run29 (I := Yb5) rfl rfl _ _ 0 hc
      exact ⟨_, _, 4, h', _, _, WkL.refl _, hr, by simp [frzF, frzMap, AV.flat], Wk.refl _⟩
    · cases hg
  · cases hg
noncomputable def Yb7 := addI Yb6 10 (pureG g10)
theorem YbA7 : IAgree Tryd.prog Yb7 := agree1 hT hmix hF YbA6 (by decide) F10 fun x r hs => by
  split at hs
  · rename_i hc; cases hs; exact fin (run10 rfl rfl rfl  x 0 hc) (fun h => by simp [frzF, frzMap, AV.flat])
  · cases hs
noncomputable def Yb8 := addI Yb7 12 (pureG g12)
theorem YbA8 : IAgree Tryd.prog Yb8 := agree1 hT hmix hF YbA7 (by decide) F12 fun x r hs => by
  split at hs
  · rename_i hc; cases hs; exact fin (run12 rfl rfl rfl rfl rfl rfl rfl rfl rfl rfl  x 0 hc) (fun h => by simp [frzF, frzMap, AV.flat])
  · cases hs
noncomputable def Yb9 := addI Yb8 8 (pureG g8)
theorem YbA9 : IAgree Tryd.prog Yb9 := agree1 hT hmix hF YbA8 (by decide) F8 fun x r hs => by
  split at hs
  · rename_i hc; cases hs; exact fin (run8  rfl  x 0 hc) (fun h => by simp [frzF, frzMap, AV.flat])
  · cases hs
noncomputable def Yb10 := addI Yb9 42 (pureG g42)
theorem YbA10 : IAgree Tryd.prog Yb10 := agree1 hT hmix hF YbA9 (by decide) F42 fun x r hs => by
  split at hs
  · rename_i hc; cases hs; exact fin (run42 rfl rfl  x 0 hc) (fun h => by simp [frzF, frzMap, AV.flat])
  · cases hs
noncomputable def Yb11 := addI Yb10 18 (pureG g18)
theorem YbA11 : IAgree Tryd.prog Yb11 := agree1 hT hmix hF YbA10 (by decide) F18 fun x r hs => by
  split at hs
  · rename_i hc; cases hs; exact fin (run18 rfl rfl  x 0 hc) (fun h => by simp [frzF, frzMap, AV.flat])
  · cases hs
noncomputable def Yb12 := addI Yb11 36 (pureG g36)
theorem YbA12 : IAgree Tryd.prog Yb12 := agree2 hT hmix hF YbA11 (by decide) F36 fun x y r hs => by
  split at hs
  · rename_i hc; cases hs; exact fin (run36 rfl rfl  x y 0 hc.1 hc.2) (fun h => by simp [frzF, frzMap, AV.flat])
  · cases hs
noncomputable def Yb13 := addI Yb12 79 (pureG g79)
theorem YbA13 : IAgree Tryd.prog Yb13 := agree1 hT hmix hF YbA12 (by decide) F79 fun x r hs => by
  split at hs
  · rename_i hc; cases hs; exact fin (run79 rfl rfl  x 0 hc) (fun h => by simp [frzF, frzMap, AV.flat])
  · cases hs
noncomputable def Yb14 := addI Yb13 81 (pureG g81)
theorem YbA14 : IAgree Tryd.prog Yb14 := by
  refine agree2 hT hmix hF YbA13 (by decide) F81 fun x y r hs => ?_
  split at hs
  · rename_i hc; cases hs
    obtain ⟨n, rfl⟩ : ∃ n : Nat, y = n := ⟨y.toNat, by omega⟩
    exact fin (run81 rfl rfl x n 0 hc.1 (by omega)) (fun h => by simp [frzF, frzMap, AV.flat])
  · cases hs
noncomputable def Yb15 := addI Yb14 100 (pureG g100)
theorem YbA15 : IAgree Tryd.prog Yb15 := agree2 hT hmix hF YbA14 (by decide) F100 fun x y r hs => by
  split at hs
  · rename_i hc; cases hs; exact fin (run100  rfl  x y 0 hc) (fun h => by simp [frzF, frzMap, AV.flat])
  · cases hs
noncomputable def Yb16 := addI Yb15 59 (pureG g59)
theorem YbA16 : IAgree Tryd.prog Yb16 := agree1 hT hmix hF YbA15 (by decide) F59 fun x r hs => by
  split at hs
  · rename_i hc; cases hs; exact fin (run59 rfl rfl rfl rfl rfl  x 0 hc) (fun h => by simp [frzF, frzMap, AV.flat])
  · cases hs
noncomputable def Yb17 := addI Yb16 57 (pureG g57)
theorem YbA17 : IAgree Tryd.prog Yb17 := agree2 hT hmix hF YbA16 (by decide) F57 fun x y r hs => by
  split at hs
  · rename_i hc; cases hs; exact fin (run57  rfl  x y 0 hc) (fun h => by simp [frzF, frzMap, AV.flat])
  · cases hs
noncomputable def Yb18 := addI Yb17 82 (pureG g82)
theorem YbA18 : IAgree Tryd.prog Yb18 := agree2 hT hmix hF YbA17 (by decide) F82 fun x y r hs => by
  split at hs
  · rename_i hc; cases hs; exact fin (run82  rfl  x y 0 hc) (fun h => by simp [frzF, frzMap, AV.flat])
  · cases hs
noncomputable def Yb19 := addI Yb18 60 (pureG g60)
theorem YbA19 : IAgree Tryd.prog Yb19 := agree2 hT hmix hF YbA18 (by decide) F60 fun x y r hs => by
  split at hs
  · rename_i hc; cases hs; exact fin (run60 rfl rfl  x y 0 hc) (fun h => by simp [frzF, frzMap, AV.flat])
  · cases hs
noncomputable def Yb20 := addI Yb19 31 (pureG g31)
theorem YbA20 : IAgree Tryd.prog Yb20 := agree2 hT hmix hF YbA19 (by decide) F31 fun x y r hs => by
  split at hs
  · rename_i hc; cases hs; exact fin (run31 rfl rfl rfl rfl rfl rfl rfl rfl rfl rfl x y 0 hc.1 hc.2) (fun h => by simp [frzF, frzMap, AV.flat])
  · cases hs
noncomputable def Yb21 := addI Yb20 46 itG
theorem YbA21 : IAgree Tryd.prog Yb21 := by
  obtain ⟨fi, hfi⟩ : ∃ fi, F 46 = some fi := Option.isSome_iff_exists.1 (by kernel_rfl)
  obtain ⟨g, hg⟩ : ∃ g, Tryd.prog.globalNamed "internal/strconv.uint64pow10" = some g := Option.isSome_iff_exists.1 (by kernel_rfl)
  exact it_agree hF YbA20 fi hfi hg (fun n h0 h1 w ht => Tryd.strconv_Itoa n h0 h1 w ht)
noncomputable def Yb22 := addI Yb21 33 (pureG g33)
theorem YbA22 : IAgree Tryd.prog Yb22 := by
  refine agree2 hT hmix hF YbA21 (by decide) F33 fun x y r hs => ?_
  split at hs
  · rename_i hc; cases hs
    obtain ⟨h', hr⟩ := run33 (I := Yb21) rfl rfl rfl rfl rfl x y 0 hc.1 hc.2
    refine ⟨_, 3, h', _, _, hr, ?_, Wk.refl _⟩
    cases gS x y <;> simp [tS, frzF, frzMap, AV.flat]
  · cases hs
noncomputable def Yb23 := addI Yb22 16 (pureG g16)
theorem YbA23 : IAgree Tryd.prog Yb23 := by
  refine agree2 hT hmix hF YbA22 (by decide) F16 fun x y r hs => ?_
  split at hs
  · rename_i hc; cases hs
    obtain ⟨h', hr⟩ := run16 (I := Yb22) rfl rfl rfl rfl rfl rfl x y 0 hc.1 hc.2
    refine ⟨_, 3, h', _, _, hr, ?_, Wk.refl _⟩
    unfold sR
    split
    · cases gS x y <;> simp [tR, frzF, frzMap, AV.flat]
    · simp [frzF, frzMap, AV.flat]
  · cases hs
noncomputable def Yb24 := addI Yb23 17 (pureG g17)
theorem YbA24 : IAgree Tryd.prog Yb24 := agree2 hT hmix hF YbA23 (by decide) F17 fun x y r hs => by
  split at hs
  · rename_i hc; cases hs; exact fin (run17  rfl  x y 0 hc) (fun h => by simp [frzF, frzMap, AV.flat])
  · cases hs
noncomputable def Yb25 := addI Yb24 19 (pureG g19)
theorem YbA25 : IAgree Tryd.prog Yb25 := by
  refine agree1 hT hmix hF YbA24 (by decide) F19 fun x r hs => ?_
  split at hs
  · rename_i hc; cases hs
    have hr := run19 (I := Yb24) rfl rfl rfl rfl x 0 hc
    unfold Q19 at hr
    unfold tN
    split at hr
    · rename_i hq
      rw [if_pos hq]
      cases hsh : shF [] x with
      | none =>
        rw [hsh] at hr
        obtain ⟨h', hr⟩ := hr
        exact ⟨_, 3, h', _, _, hr, by simp [frzF, frzMap, AV.flat], Wk.refl _⟩
      | some o =>
        rw [hsh] at hr
        obtain ⟨h', v, hr, hv⟩ := hr
        obtain ⟨v0, h3, h4⟩ := hv.frz (al := false) 1 (frzMap_map (f := AV.str) fun _ => by simp [frzF, AV.flat]) (by simp)
        refine ⟨_, 3, h', _, .tup [v0, .int .i64 0], hr, ?_, Wk.tup (WkL.cons h4 (WkL.cons (Wk.refl _) WkL.nil))⟩
        show (frzMap (frzF false 2 h') [v, .int .i64 0]).map AV.tup = _
        have h5 : frzF false 2 h' (.int .i64 0) = some (.int .i64 0) := rfl
        simp only [frzMap, h3, h5, Option.map_some]
    · rename_i hq
      rw [if_neg hq]
      obtain ⟨h', hr⟩ := hr
      exact ⟨_, 3, h', _, _, hr, by simp [frzF, frzMap, AV.flat], Wk.refl _⟩
  · cases hs
theorem law4 (s : List UInt8) (tk nm : List (List UInt8)) (hl : s.length < 140737488355327) (ht : small tk) (hn : small nm) : ∃ h', call F Yb25 T 400 4 [.str s, .lst false 1 tk.length (tk.map .str), .lst false 1 nm.length (nm.map .str)] e0 = some (.bool true, h') := run4 rfl rfl rfl rfl rfl rfl rfl rfl s tk nm 0 hl ht hn
theorem lawA : IAgree Tryd.prog Yb25 := YbA25
end Go.AM.X.G
