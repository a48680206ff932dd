/- Tables of routes: the library's sort by its contract. Own work. -/
import Derived.Test.YtekoffjfbjonmaaRtgJ
import Derived.Test.YtekoffjfbjonmaaShelfS
import Derived.Test.YtekoffjfbjonmaaRtgK
namespace Go.AM.X
open Go Go.AM Go.Proofs Go.AM.Sx Go.Shelf Go.RowKit Go.Lib Go.Sort
set_option maxHeartbeats 3200000
set_option maxRecDepth 100000
set_option linter.unusedSimpArgs false
set_option linter.unusedVariables false
theorem closure109 (x y : E6) (W : World) : Calls Try.prog 109 #[.agg (E6.enc x).toArray, .agg (E6.enc y).toArray] W fun e w' => e = .returned (.int .i64 (cmpLo x y)) ∧ ∃ q os', w' = grow (W.drewN q) os' := by
  have hcon := fun W' => AnyG.cmp_Compare_int Try.cmpInt x.lo y.lo W'
  change ∀ W', Calls Try.prog 110 _ _ _ at hcon
  unfold cmpLo
  generalize Lib.compareInt x.lo y.lo = r at hcon ⊢
  show Calls Try.prog 109 #[.agg #[.int .i64 x.lo, .int .i64 x.hi, .int .i64 x.di, .int .i64 x.po, .int .i64 x.nx, .int .i64 x.st], .agg #[.int .i64 y.lo, .int .i64 y.hi, .int .i64 y.di, .int .i64 y.po, .int .i64 y.nx, .int .i64 y.st]] W _
  go_enter Try.func109, Try.ntmps109
  go_wp2_with (go_at_call 110; refine (hcon _).mono ?_; rintro e w' ⟨rfl, rfl⟩)
  go_ret
  exact ⟨rfl, 0, _, by rw [alloc_eq_grow, alloc_eq_grow, grow_grow]; rfl⟩
theorem cmpLays109 (blk off size : Nat) (w : World) : CmpLays Try.prog 109 #[] E6.enc 6 cmpLo blk off size w :=
  fun _ _ _ _ x y => closure109 x y _
theorem first13 : isT (call F noI T 300 13 [] e0) = true := by kernel_rfl
noncomputable def I1 := addI noI 13 (pureG g13)
theorem A1 : IAgree Try.prog I1 := by
  obtain ⟨fi, hfi⟩ : ∃ fi, F 13 = some fi := Option.isSome_iff_exists.1 (by kernel_rfl)
  refine pure_agree hT hmix hF (noI_agree _) (by decide) fi hfi fun args v hg _ => ?_
  unfold g13 at hg
  split at hg
  · cases hg
    obtain ⟨h', hc⟩ := isT_some first13
    exact ⟨[], 300, 3, h', .bool true, .bool true, WkL.nil, hc, by simp [frzF, AV.flat], Wk.refl _⟩
  · cases hg
noncomputable def I2 := addI I1 108 (srtG 109)
theorem enter109 (args : Array Value) (w : World) : (callFunc 109 args).run Try.prog w = .ok (.enter 109 args) w := enters_of Try.func109 (by kernel_rfl) rfl args w
theorem sort0 (p : Option Addr) (cap : Nat) (fv : Value) (w : World) : Calls Try.prog 108 #[.slice p 0 cap, fv] w fun e w' => e = .returned (.tuple #[]) ∧ w' = w := by
  have h := AnyF.slices_SortFunc_none (P := Try.prog) (ρ := Try.sortE_ren) Try.sortE p cap fv w
  exact h
theorem sortN (blk off cap : Nat) (d : Array E6) (w : World) (hH : HoldsK E6.enc 6 w blk off d) (hblk : blk < w.heap.size) (hsz : d.size < 4611686018427387904) :
    Calls Try.prog 108 #[.slice (some ⟨blk, off, none⟩) d.size cap, .func (.func 109) #[] #[]] w fun e w' => e = .returned (.tuple #[]) ∧ ∃ n os, w' = sortWorldK E6.enc 6 w blk off n (pdq (ltOf cmpLo) d 0 d.size (Lib.bitLen d.size) true true) os := by
  have h := AnyQ.slices_SortFunc_eq Try.sortE 6 Try.isAgg60 Try.sizeOf60 E6.enc (fun _ => rfl) (fun x v hv => by obtain ⟨n, _, rfl⟩ := List.mem_map.1 hv; rfl) cmpLo swoLo 109 #[] blk off cap d w enter109 (cmpLays109 blk off d.size w) hH hblk hsz
  exact h
theorem A2 : IAgree Try.prog I2 := by
  obtain ⟨fi, hfi⟩ : ∃ fi, F 108 = some fi := Option.isSome_iff_exists.1 (by kernel_rfl)
  exact srt_agree hF A1 fi hfi sort0 sortN
end Go.AM.X
namespace Go.AM.X
open Go Go.AM Go.Proofs Go.AM.Sx
set_option maxHeartbeats 3200000
set_option maxRecDepth 100000
theorem lawT (l : List Ac) (hl : l.length < 140737488355328) : ∃ h', call F I2 T (l.length + 20001) 4 [.lst false 4 l.length (fl Ac.av l)] e0 = some (.bool true, h') :=
  law4 rfl rfl rfl rfl rfl rfl rfl rfl rfl rfl rfl rfl rfl rfl rfl rfl rfl rfl rfl rfl rfl rfl rfl rfl rfl rfl rfl rfl rfl rfl rfl rfl rfl rfl rfl rfl rfl rfl rfl rfl rfl rfl rfl rfl rfl rfl l l.length ⟨Nat.le_refl _, hl⟩
end Go.AM.X
namespace Go.AM.X
open Go Go.AM Go.Proofs Go.AM.Sx
set_option maxHeartbeats 3200000
set_option maxRecDepth 100000
theorem lawA (l : List Ac) (hl : l.length < 140737488355328) : ∃ h', call F I2 T (l.length + 20001) 5 [.lst false 4 l.length (fl Ac.av l)] e0 = some (.bool true, h') :=
  law5 rfl rfl rfl rfl rfl rfl rfl rfl rfl rfl rfl rfl rfl rfl rfl rfl rfl rfl rfl rfl rfl rfl rfl rfl rfl rfl rfl rfl rfl rfl rfl rfl rfl rfl rfl rfl rfl rfl rfl rfl rfl rfl l l.length ⟨Nat.le_refl _, hl⟩
end Go.AM.X
namespace Go.AM.X
open Go Go.AM Go.Proofs Go.AM.Sx
set_option maxHeartbeats 3200000
set_option maxRecDepth 100000
theorem lawY (l : List Ac) (w : List Int) (hl : l.length < 140737488355328) (hw : w.length < 140737488355328) : ∃ h', call F I2 T (l.length + 20001) 6 [.lst false 4 l.length (fl Ac.av l), .lst false 1 w.length (w.map (.int .i64))] e0 = some (.bool true, h') :=
  law6 rfl rfl rfl rfl rfl rfl rfl rfl rfl rfl rfl rfl rfl rfl rfl rfl rfl rfl rfl rfl rfl rfl rfl rfl rfl rfl rfl rfl rfl rfl rfl rfl rfl rfl rfl rfl rfl rfl rfl rfl rfl l w l.length ⟨Nat.le_refl _, hl⟩ hw
end Go.AM.X
