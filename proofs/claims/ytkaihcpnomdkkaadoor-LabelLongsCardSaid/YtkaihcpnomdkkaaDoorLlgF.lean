/- Short names beside those that are taken. Own work. -/
import Derived.Test.YtkaihcpnomdkkaaDoorLlgE
import Derived.Test.YtkaihcpnomdkkaaDoorAmItoa
namespace Go.AM.X.G
open Go Go.AM Go.Proofs Go.AM.Sx Go.AM.X
set_option maxHeartbeats 1600000
set_option maxRecDepth 100000
set_option linter.unusedSimpArgs false
set_option linter.unusedVariables false
noncomputable def g9 : List AV → Option AV
  | [] => some (.bool true)
  | _ => none
theorem K9 {I : Nat → Option (List AV → AH → Rs)} (h9 : I 9 = some (pureG g9)) (m : Nat) (h : AH) : call F I T (m + 1) 9 [] h = some (.bool true, h) := by
  rw [call_I (by decide) h9]; exact pureG_flat rfl rfl
theorem K46 {I : Nat → Option (List AV → AH → Rs)} (h46 : I 46 = some itG) (m : Nat) (n : Int) (h : AH) (h0 : -9223372036854775808 ≤ n ∧ n ≤ 9223372036854775807) : call F I T (m + 1) 46 [.int .i64 n] h = some (.str (Lib.itoa n), h) := by
  rw [call_I (by decide) h46]
  simp only [itG]
  rw [if_pos h0]
theorem itoa_nat (n : Nat) : Lib.itoa (n : Int) = Lib.decDigits n := by
  unfold Lib.itoa
  rw [if_neg (by omega), toNat_cast]
theorem dec_len : ∀ (k n : Nat), n < 10 ^ (k + 1) → 1 ≤ (Lib.decDigits n).length ∧ (Lib.decDigits n).length ≤ k + 1
  | 0, n, h => by
    rw [Lib.decDigits, dif_pos (by simpa using h)]; simp
  | k + 1, n, h => by
    rw [Lib.decDigits]
    split
    · simp
    · have h1 : n / 10 < 10 ^ (k + 1) := by
        rw [Nat.pow_succ] at h
        exact Nat.div_lt_of_lt_mul (by omega)
      have := dec_len k (n / 10) h1
      simp only [List.length_append, List.length_cons, List.length_nil]
      omega
end Go.AM.X.G
namespace Go.AM.X.G
open Go Go.AM Go.Proofs Go.AM.Sx Go.AM.X
set_option maxHeartbeats 1600000
set_option maxRecDepth 100000
set_option linter.unusedSimpArgs false
set_option linter.unusedVariables false
theorem strs_flat (ex : Bool) (l : List (List UInt8)) : (AV.lst ex 1 l.length (l.map .str)).flat = true := by
  have h1 : flatL (l.map AV.str) = true := flatL_map (fun _ => rfl) l
  simp [AV.flat, h1]
end Go.AM.X.G
namespace Go.AM.X.G
open Go Go.AM Go.Proofs Go.AM.Sx Go.AM.X
set_option maxHeartbeats 12800000
set_option maxRecDepth 100000
set_option linter.unusedSimpArgs false
set_option linter.unusedVariables false
end Go.AM.X.G
