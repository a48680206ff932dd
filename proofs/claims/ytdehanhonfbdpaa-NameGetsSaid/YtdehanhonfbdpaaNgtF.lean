/- Packets, put: the program. Own work. -/
import Derived.Test.YtdehanhonfbdpaaNgtE
namespace Go.AM.X.P
open Go Go.AM Go.Proofs Go.AM.Sx Go.AM.X
set_option maxHeartbeats 1600000
set_option maxRecDepth 100000
set_option linter.unusedSimpArgs false
set_option linter.unusedVariables false
def five (x : Nm) : List UInt8 := be2 x.net ++ [UInt8.ofNat x.node.toNat, UInt8.ofNat x.sock.toNat, UInt8.ofNat x.enum.toNat]
def txs (x : Nm) : List (List UInt8) := [x.name.o, x.name.t, x.name.z]
def ent (x : Nm) : List UInt8 := five x ++ (txs x).flatMap putT
def hd (k id : Int) (n : Nat) : List UInt8 := [UInt8.ofNat (k.toNat * 16 + n), UInt8.ofNat id.toNat]
def pk (k id : Int) (n : Nat) (l : List Nm) : List UInt8 := hd k id n ++ l.flatMap ent
noncomputable def good (k id : Int) (l : List Nm) : Bool := within k 1 3 && within id 0 255 && within l.length 1 15 && l.all (isEnt k)
noncomputable def putN (k id : Int) (l : List Nm) : List UInt8 × Int := if good k id l = true then (pk k id l.length l, 0) else ([], 2)
def okNms (l : List Nm) : Prop := ∀ x ∈ l, okE x.name
theorem within_iff {n a b : Int} : within n a b = true ↔ a ≤ n ∧ n ≤ b := by simp [within]
theorem alloc_put (h : AH) (x y : AB) : (h.alloc x).put h.next y = h.alloc y := by
  simp only [AH.alloc, AH.put, PT.set, setF_setF]
def z70l : List AV := [.str [], .str [], .str [], .int .i64 0, .int .i64 0, .int .i64 0, .int .i64 0]
theorem st70 (h : AH) (x : Nm) : aStore T 70 (.ptr h.next 0) (.agg [.str x.name.o, .str x.name.t, .str x.name.z, .int .i64 x.net, .int .i64 x.node, .int .i64 x.sock, .int .i64 x.enum]) (h.alloc (.cells [.str [], .str [], .str [], .int .i64 0, .int .i64 0, .int .i64 0, .int .i64 0] .own))
    = some (h.alloc (.cells x.cells .own)) := by
  rw [store_n (cs := z70l) (vs := x.cells) T70 rfl (by rw [s70]; rfl) rfl (by rw [AH.get_alloc, if_pos rfl]; rfl) (by simp [Nm.cells, z70l]), alloc_put]
  rfl
theorem len7 (x : Nm) (r : List AV) : (7 ≤ (AV.str x.name.o :: AV.str x.name.t :: AV.str x.name.z :: AV.int .i64 x.net :: AV.int .i64 x.node :: AV.int .i64 x.sock :: AV.int .i64 x.enum :: r).length) = True := by
  simp
end Go.AM.X.P
namespace Go.AM.X.P
open Go Go.AM Go.Proofs Go.AM.Sx Go.AM.X
set_option maxHeartbeats 1600000
set_option maxRecDepth 100000
set_option linter.unusedSimpArgs false
set_option linter.unusedVariables false
end Go.AM.X.P
namespace Go.AM.X.P
open Go Go.AM Go.Proofs Go.AM.Sx Go.AM.X
set_option maxHeartbeats 1600000
set_option maxRecDepth 100000
set_option linter.unusedSimpArgs false
set_option linter.unusedVariables false
noncomputable def gPut := open Classical in G3 (vInt .i64) (vInt .i64) vNms fun k id l => if okNms l ∧ l.length < 140737488355328 then some (.tup [.lst false 1 (putN k id l).1.length (ofBytes (putN k id l).1), .int .i64 (putN k id l).2]) else none
noncomputable def g38 := gPut
noncomputable def g39 := gPut
noncomputable def E1 := addI D10 108 (pureG g108)
noncomputable def E2 := addI E1 80 (pureG g80)
noncomputable def E3 := addI E2 82 (pureG g82)
noncomputable def E4 := addI E3 81 (pureG g81)
noncomputable def E5 := addI E4 38 (pureG g38)
noncomputable def E6 := addI E5 39 (pureG g39)
end Go.AM.X.P
