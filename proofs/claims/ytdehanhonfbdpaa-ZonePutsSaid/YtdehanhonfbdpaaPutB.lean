/- Numbers and texts in bytes. Own work. -/
import Derived.Test.YtdehanhonfbdpaaPutG
namespace Go.AM.X
open Go Go.AM Go.Proofs Go.AM.Sx
set_option maxHeartbeats 400000
set_option maxRecDepth 100000
set_option linter.unusedSimpArgs false
set_option linter.unusedVariables false
/-- The middle of a list. -/
theorem sl_mid {t el : Nat} {ti te : TI} {α : Type} {f : α → AV} {l : List α} {ex : Bool} {lo hi : Nat} (ht : T t = some ti) (hd : ti.desc = .slice el) (he : T el = some te) (hs : te.size = 1) (h1 : lo ≤ hi) (h2 : hi ≤ l.length) :
    aSlice T t (.lst ex 1 l.length (l.map f)) (some (.int .i64 (lo : Nat))) (some (.int .i64 (hi : Nat))) none = some (.lst (ex && Nat.beq hi l.length) 1 (hi - lo) (((l.drop lo).take (hi - lo)).map f)) := by
  rw [sl_lst ht hd he hs (u := hi) (l := lo) (by simp [bnd]) (by simp [bnd]) h1 h2]
  simp
end Go.AM.X
namespace Go.AM.X
open Go Go.AM Go.Proofs Go.AM.Sx
set_option maxHeartbeats 400000
set_option maxRecDepth 100000
set_option linter.unusedSimpArgs false
set_option linter.unusedVariables false
theorem back_bytes {l : List UInt8} : bytesOf (l.map vByte.enc) = some l := bytesOf_ofBytes l
def ok (b : List UInt8) (p e : Int) : Prop := e = 0 → 0 ≤ p ∧ p ≤ b.length
/-! the reference's reader -/
end Go.AM.X
namespace Go.AM.X
open Go Go.AM Go.Proofs Go.AM.Sx
set_option maxHeartbeats 400000
set_option maxRecDepth 100000
set_option linter.unusedSimpArgs false
set_option linter.unusedVariables false
theorem frz_tup1 {k : Nat} {h : AH} {v v0 : AV} {n : Int} (hv : frzF false k h v = some v0) : frzF false (k + 1) h (.tup [v, .int .i64 n]) = some (.tup [v0, .int .i64 n]) := by
  cases k with
  | zero => simp [frzF] at hv
  | succ k =>
    show (frzMap (frzF false (k + 1) h) [v, .int .i64 n]).map AV.tup = _
    have h1 : frzF false (k + 1) h (.int .i64 n) = some (.int .i64 n) := rfl
    simp only [frzMap, hv, h1, Option.map_some]
end Go.AM.X
namespace Go.AM.X
open Go Go.AM Go.Proofs Go.AM.Sx
set_option maxHeartbeats 400000
set_option linter.unusedSimpArgs false
set_option linter.unusedVariables false
end Go.AM.X
namespace Go.AM.X
open Go Go.AM Go.Proofs Go.AM.Sx
set_option maxHeartbeats 400000
set_option maxRecDepth 100000
set_option linter.unusedSimpArgs false
set_option linter.unusedVariables false
theorem dInt_enc (x : Int) : (vInt .i64).dec ((vInt .i64).enc x) = some x := by simp [vInt, dInt]
end Go.AM.X
namespace Go.AM.X
open Go Go.AM Go.Proofs Go.AM.Sx
set_option maxHeartbeats 800000
set_option maxRecDepth 100000
set_option linter.unusedSimpArgs false
set_option linter.unusedVariables false
end Go.AM.X
namespace Go.AM.X
open Go Go.AM Go.Proofs Go.AM.Sx
set_option maxHeartbeats 800000
set_option maxRecDepth 100000
set_option linter.unusedSimpArgs false
set_option linter.unusedVariables false
end Go.AM.X
namespace Go.AM.Sx
open Go Go.AM
set_option linter.unusedSimpArgs false
set_option linter.unusedVariables false
theorem Row.lt {h : AH} {v : AV} {n : Nat} {cs : List AV} (hr : Row 1 h v n cs) {b o l k z : Nat} {x : Bool} (hv : v = .sl b o l k z x) : b < h.next := by
  rcases hr with ⟨rfl, _⟩ | ⟨b', rfl, _, _, h3, _⟩
  · cases hv
  · cases hv; exact h3
theorem Row.put {h : AH} {v : AV} {n : Nat} {cs : List AV} (hr : Row 1 h v n cs) {q : Nat} (hoff : offRow v q) (x : AB) : Row 1 (h.put q x) v n cs :=
  hr.keep (by simp) (fun bl hv => by rw [AH.get_put, if_neg (fun hq => hoff _ _ _ _ _ _ hv hq.symm)])
/-- Something is pushed on a row. -/
theorem Row.push {T : TT} {h : AH} {t el : Nat} {ti te : TI} {v x : AV} {n : Nat} {cs : List AV} (ht : T t = some ti) (hd : ti.desc = .slice el) (he : T el = some te) (hz : te.size = 1) (hb : 0 < te.bytes) (ho : Row 1 h v n cs) (hone : x.one = true)
    (hsm : (n + 1) * te.bytes < maxBytes) :
    ∃ v' h2, aAppend T t t v (.sl h.next 0 1 1 1 true) (h.alloc (.cells [x] .own)) = some (v', h2) ∧ Row 1 h2 v' (n + 1) (cs ++ [x]) ∧ h.next ≤ h2.next ∧ (∀ b o l k z x, v' = .sl b o l k z x → h.next ≤ b) ∧ (∀ c, c < h.next → offRow v c → h2.get c = h.get c) := by
  obtain ⟨bb, h2, happ, hrow2, hn1, hn2, hkeep⟩ := (ho.alloc (.cells [x] .own)).app ht hd he (isSrc_sl ht hd) hz hb (m := 1) (new := [x])
    (x := .sl h.next 0 1 1 1 true) (by rw [hz, src_sl]; simp [AH.loadn, AH.get_alloc]) (by omega) rfl (by simp [hone]) hsm
  refine ⟨_, h2, happ, hrow2, by simp at hn1; omega, fun b o l k z y hv => by cases hv; simp at hn2; omega, fun c hc hoff => ?_⟩
  rw [hkeep c (by simp; omega) hoff, AH.get_alloc, if_neg (by omega)]
end Go.AM.Sx
namespace Go.AM.X
open Go Go.AM Go.Proofs Go.AM.Sx
set_option maxHeartbeats 800000
set_option maxRecDepth 100000
set_option linter.unusedSimpArgs false
set_option linter.unusedVariables false
def lFst (l : List (Int × List UInt8)) : List AV := l.map fun x => .int .i64 x.1
def lSnd (l : List (Int × List UInt8)) : List AV := l.map fun x => .str x.2
end Go.AM.X
namespace Go.AM.X
open Go Go.AM Go.Proofs Go.AM.Sx
set_option maxHeartbeats 800000
set_option maxRecDepth 100000
set_option linter.unusedSimpArgs false
set_option linter.unusedVariables false
end Go.AM.X
namespace Go.AM.X
open Go Go.AM Go.Proofs Go.AM.Sx
set_option maxHeartbeats 400000
set_option maxRecDepth 100000
set_option linter.unusedSimpArgs false
set_option linter.unusedVariables false
theorem lFst_eq (l : List (Int × List UInt8)) : lFst l = (l.map Prod.fst).map (AV.int .i64) := by simp [lFst]
theorem lSnd_eq (l : List (Int × List UInt8)) : lSnd l = (l.map Prod.snd).map AV.str := by simp [lSnd]
end Go.AM.X
