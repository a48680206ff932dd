/- A function that is known by its contract, and that reads a table of the library's: numbers as texts. Own work. -/
import Derived.Test.YtleefbnanliliaaDoorAmRow
import Derived.Sort.Grow
import Derived.Deep.Draws
namespace Go.AM
open Go Go.RowKit
set_option linter.unusedVariables false
def itG (args : List AV) (h : AH) : Rs :=
  match args with
  | [.int .i64 n] => if -9223372036854775808 ≤ n ∧ n ≤ 9223372036854775807 then some (.str (Lib.itoa n), h) else none
  | _ => none
theorem tab_is {P : Program} {B : BS P} {μ : Img} {h : AH} {w : World} (hr : HR B μ h w.heap) {g : Nat} (hg : P.globalNamed "internal/strconv.uint64pow10" = some g) : Lib.TabIs P w "internal/strconv.uint64pow10" .u64 Lib.pow10Tab := by
  have h1 : tablesOf P g = some ((Lib.pow10Tab.map fun z => Value.int .u64 z).toArray) := by unfold tablesOf; rw [if_pos hg]
  obtain ⟨⟨el, f, hc⟩, _⟩ := hr.frz g _ (hr.tab g _ h1)
  unfold Lib.TabIs World.var?
  rw [hg]
  simp only [Option.bind_some, hc]
theorem tables_of {P : Program} {W : World} (h : Lib.TabIs P W "internal/strconv.uint64pow10" .u64 Lib.pow10Tab) : ∀ k arr, tablesOf P k = some arr → fzAll W k = some arr := by
  intro k arr hk
  unfold tablesOf at hk
  split at hk
  · rename_i hg
    cases hk
    unfold Lib.TabIs World.var? at h
    rw [hg] at h
    simp only [Option.bind_some] at h
    split at h
    · rename_i hc; cases h; exact fzAll_of hc
    · cases h
  · cases hk
/-- The list of the laid variables, but for its first one. -/
theorem laid_tail {P : Program} {W : World} {x : String × DataW Unit} {rest : List (String × DataW Unit)} (h : laidMet P (x :: rest) W) : laidMet P rest W := by
  obtain ⟨n, d⟩ := x
  obtain ⟨ps, ⟨g, t, cs, fuel, p, q, _, _, _, _, hq, rfl⟩, hn, hc⟩ := h
  exact ⟨q, hq, (List.nodup_append.1 hn).2.1, fun b off hb => hc b off (by simp [hb])⟩
theorem it_agree {P : Program} {F : Nat → Option FI} (hF : FAgree P F) {I : Nat → Option (List AV → AH → Rs)} (hI : IAgree P I) {f g : Nat} (fi : FI) (hFf : F f = some fi) (hg : P.globalNamed "internal/strconv.uint64pow10" = some g)
    (hc : ∀ (n : Int), -9223372036854775808 ≤ n → n ≤ 9223372036854775807 → ∀ (w : World), Lib.TabIs P w "internal/strconv.uint64pow10" .u64 Lib.pow10Tab →
      Calls P f #[.int .i64 n] w fun e w' => e = .returned (.string ⟨(Lib.itoa n).toArray⟩) ∧ ∃ k os, w' = Sort.grow (w.drewN k) os) : IAgree P (addI I f itG) := by
  refine addI_agree hI ?_ ?_
  · obtain ⟨fn, hfn, hbody, _, _, hname, _⟩ := hF.fn f fi hFf
    have hname' : ¬ fn.name = "runtime.NumGoroutine" := by simpa using hname
    exact fun as w => by simp [callFunc, hfn, hname', hbody]
  · intro args h v h' hgv B μ vs w hvs hr
    unfold itG at hgv
    split at hgv
    · rename_i n
      split at hgv
      · rename_i hn
        cases hgv
        obtain ⟨x, r1, rfl, h1, h2⟩ := hvs.cons_inv
        rw [h2.nil_inv, h1.int_inv]
        refine (hc n hn.1 hn.2 w (tab_is hr hg)).mono ?_
        rintro e w' ⟨rfl, k, os, rfl⟩
        have hsz : ∀ i, i < w.heap.size → (w.heap ++ os)[i]? = w.heap[i]? := fun i hi => by rw [Array.getElem?_append_left hi]
        have hB : BelowS (· < w.heap.size) w (Sort.grow (w.drewN k) os) := ⟨rfl, rfl, rfl, by show w.heap.size ≤ (w.heap ++ os).size; simp, fun i hi => hsz i hi⟩
        refine ⟨_, rfl, μ, Img.le.refl _, by rw [VR], hr.below hB, hB.mono hr.base⟩
      · cases hgv
    · cases hgv
end Go.AM
