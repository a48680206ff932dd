/- Short names that are made are short, and free: the plain law. Own work. -/
import Derived.Test.YtkaihcpnomdkkaaDoorLlgF
namespace Go.AM.X.G
open Go Go.AM Go.Proofs Go.AM.Sx Go.AM.X
set_option maxHeartbeats 1600000
set_option maxRecDepth 100000
set_option linter.unusedSimpArgs false
set_option linter.unusedVariables false
theorem part_iff {s : List UInt8} {n : Nat} : part s (n : Nat) = true ↔ s.all isB = true ∧ 1 ≤ s.length ∧ s.length ≤ n := by
  simp only [part, Bool.and_eq_true, decide_eq_true_eq, and_assoc]
  constructor
  · rintro ⟨h1, h2, h3⟩; exact ⟨h1, by omega, by omega⟩
  · rintro ⟨h1, h2, h3⟩; exact ⟨h1, by omega, by omega⟩
theorem part8 {s : List UInt8} : part s 8 = true ↔ s.all isB = true ∧ 1 ≤ s.length ∧ s.length ≤ 8 := part_iff (n := 8)
theorem part3 {s : List UInt8} : part s 3 = true ↔ s.all isB = true ∧ 1 ≤ s.length ∧ s.length ≤ 3 := part_iff (n := 3)
theorem short_len {s : List UInt8} (h : isShort s = true) : s.length ≤ 12 := by
  unfold isShort at h
  split at h
  · rename_i hq
    obtain ⟨i, hi⟩ : ∃ i : Nat, Lib.indexByte s 46 = i := ⟨(Lib.indexByte s 46).toNat, by omega⟩
    rw [hi, toNat_cast, Bool.and_eq_true] at h
    obtain ⟨_, _, x3⟩ := part8.1 h.1
    obtain ⟨_, _, z3⟩ := part3.1 h.2
    rw [List.length_take] at x3
    rw [List.length_drop] at z3
    omega
  · have := (part8.1 h).2.2; omega
theorem K8w {I : Nat → Option (List AV → AH → Rs)} (h8 : I 8 = some (pureG g8)) (m : Nat) (a : List UInt8) (n : Nat) (h : AH) (hb : h.get n = some (.cells [.str a] .own)) : call F I T (m + 1) 8 [.sl n 0 1 1 1 true] h = some (.bool (tooLong [a]), h) := by
  rw [call_I (by decide) h8]
  refine pureG_view (bs := [.lst true 1 1 [.str a]]) (by simp [flatL, AV.flat]) ?_ ?_ rfl
  · refine frzMap_cons ?_ frzMap_nil
    exact frz_sl (k := 8) hb rfl (by simp [frzMap, frzF, AV.flat])
  · have := vList_dec dStr_enc true [a]
    have h2 : (vList vStr).dec (.lst true 1 1 [.str a]) = some [a] := this
    unfold g8
    simp only [G1, h2, Option.bind_some]
    simp
end Go.AM.X.G
